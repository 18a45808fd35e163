/- What the program's functions do, part 1. Conditions: none. -/
import Derived.Test.YtfncnpcoekinjaaGreatDoorAd
import Derived.Test.YtfncnpcoekinjaaGreatDoorChecked
import Derived.KernelRfl
import Derived.IntWalk
import Derived.Sort.AssemblyPlain
open Nat renaming reduceEqDiff → nE, reduceLeDiff → nL, reduceAdd → nA, reduceLT → nT, le_refl → lr
open List renaming getElem?_eq_getElem → gEg, length_map → lmp, getElem_mem → gmm, length_append → lap, length_cons → lcs, mem_singleton → msg, append_nil → apn, mem_append → map', take_length → tkl, map_cons → mcs, map_append → mpp, mem_map → mmp, any_eq_true → aet, length_replicate → lrp, take_add_one → tao, length_take → ltk, mem_filter → mfl
set_option maxRecDepth 100000
namespace Go.AL
theorem BS : (type_of% @e_reg) ∧ (type_of% @e_block) ∧ (type_of% @e_exit) ∧ (type_of% @e_ret) ∧ (type_of% @e_skip) ∧ (type_of% @e_par) ∧ (type_of% @e_done) ∧ (type_of% @e_step) ∧ (type_of% @e_cons) ∧ (type_of% @e_nil) ∧ (type_of% @e_plain) ∧ (type_of% @evs_nil) ∧ (type_of% @evs_cons) ∧ (type_of% @ev_t) ∧ (type_of% @ev_c) ∧ (type_of% @ev_f) ∧ (type_of% @argsA_ap) ∧ (type_of% @e_putK) ∧ (type_of% @e_putd) ∧ (type_of% @e_putd0) ∧ (type_of% @e_put) ∧ (type_of% @e_then) ∧ (type_of% @e_then_ret) ∧ (type_of% @e_then_exit) ∧ (type_of% @e_blk) ∧ (type_of% @e_blk_ret) ∧ (type_of% @e_blk_exit) ∧ (type_of% @retQ_ret) ∧ (type_of% @retQ_normal) ∧ (type_of% @e_res0) ∧ (type_of% @e_res1) ∧ (type_of% @e_res2) ∧ (type_of% @frz_int) ∧ (type_of% @frz_bool) ∧ (type_of% @frz_slr) ∧ (type_of% @frz_sl) ∧ (type_of% @frz_nilsl) ∧ (type_of% @frz_ptr) ∧ (type_of% @frz_fn) ∧ (type_of% @frz_map) ∧ (type_of% @frz_tuple) ∧ (type_of% @frz_agg) ∧ (type_of% @frz_yld) ∧ (type_of% @frz_str) ∧ (type_of% @sem_mov) ∧ (type_of% @sem_pick) ∧ (type_of% @sem_add) ∧ (type_of% @sem_sub) ∧ (type_of% @sem_mul) ∧ (type_of% @sem_lss) ∧ (type_of% @sem_leq) ∧ (type_of% @sem_gtr) ∧ (type_of% @sem_geq) ∧ (type_of% @sem_eql) ∧ (type_of% @sem_neq) ∧ (type_of% @sem_not) ∧ (type_of% @sem_neg) ∧ (type_of% @sem_conv) ∧ (type_of% @sem_ext0) ∧ (type_of% @sem_ext1) ∧ (type_of% @sem_call) ∧ (type_of% @sem_callv) ∧ (type_of% @sem_alloc) ∧ (type_of% @sem_box) ∧ (type_of% @sem_mkmap) ∧ (type_of% @sem_mkfn) ∧ (type_of% @sem_nilck_ptr) ∧ (type_of% @sem_nilck_fn) ∧ (type_of% @sem_fld_ptr) ∧ (type_of% @sem_fld_vptr) ∧ (type_of% @sem_len_nil) ∧ (type_of% @sem_len_sl) ∧ (type_of% @sem_len_slr) :=
 ⟨@e_reg, @e_block, @e_exit, @e_ret, @e_skip, @e_par, @e_done, @e_step, @e_cons, @e_nil, @e_plain, @evs_nil, @evs_cons, @ev_t, @ev_c, @ev_f, @argsA_ap, @e_putK, @e_putd, @e_putd0, @e_put, @e_then, @e_then_ret, @e_then_exit, @e_blk, @e_blk_ret, @e_blk_exit, @retQ_ret, @retQ_normal, @e_res0, @e_res1, @e_res2, @frz_int, @frz_bool, @frz_slr, @frz_sl, @frz_nilsl, @frz_ptr, @frz_fn, @frz_map, @frz_tuple, @frz_agg, @frz_yld, @frz_str, @sem_mov, @sem_pick, @sem_add, @sem_sub, @sem_mul, @sem_lss, @sem_leq, @sem_gtr, @sem_geq, @sem_eql, @sem_neq, @sem_not, @sem_neg, @sem_conv, @sem_ext0, @sem_ext1, @sem_call, @sem_callv, @sem_alloc, @sem_box, @sem_mkmap, @sem_mkfn, @sem_nilck_ptr, @sem_nilck_fn, @sem_fld_ptr, @sem_fld_vptr, @sem_len_nil, @sem_len_sl, @sem_len_slr⟩
theorem BC : (type_of% @Option.map_some.{0,0}) ∧ (type_of% @List.map_cons.{0,0}) ∧ (type_of% @List.map_nil.{0,0}) ∧ (type_of% @List.getElem?_cons_zero.{0}) ∧ (type_of% @List.getElem?_cons_succ.{0}) ∧ (type_of% @Bool.false_eq_true) ∧ (type_of% @Bool.true_eq_false) :=
 ⟨@Option.map_some.{0,0}, @List.map_cons.{0,0}, @List.map_nil.{0,0}, @List.getElem?_cons_zero.{0}, @List.getElem?_cons_succ.{0}, @Bool.false_eq_true, @Bool.true_eq_false⟩
theorem BX : (type_of% BS) ∧ (type_of% BC) ∧ (type_of% @e_seq) ∧ (type_of% @cond_if) := ⟨BS, BC, @e_seq, @cond_if⟩
theorem BZ : (type_of% BS) ∧ (type_of% BC) ∧ (type_of% @e_seq) := ⟨BS, BC, @e_seq⟩
abbrev PE (E : Env) : Prop := E.P = Go.Proofs.Tryz.prog
end Go.AL
namespace Go.AL.S
open Go Go.AL Go.Proofs Go.Sort
def c87 : AC := (.r [.v 4 (.bool false)] (.r [.m 5 0,.u 6 (.call 117) 5,.m 7 6,.M 8 1 7 true,.U 9 (.call 117) 8 7 true,.U 10 (.un .not) 9 7 true,.p 11 .pick [.t 7,.t 10,.F],.m 12 11,.M 13 0 12 false,.M 14 1 12 false,.B 15 (.bin .lss) 13 14 12 false,.p 16 .pick [.t 12,.T,.t 15],.m 4 16] .ret))
theorem ok87e : compF Tryz.prog Tryz.f114 ⟨true, false, []⟩ = some (c87, [.tmp 4], 17) := by kernel_rfl
def c119 : AC := (.r [.v 2 (.bool false)] (.r [.m 3 0,.m 4 0,.b 5 (.bin .neq) 3 4,.m 2 5] .ret))
theorem ok119e : compF Tryz.prog Tryz.f117 ⟨true, false, []⟩ = some (c119, [.tmp 2], 6) := by kernel_rfl
def c114 : AC := (.r [.m 10 1,.m 8 10] (.block 0 (.loop (.block 1 (.r [.m 11 8,.p 12 (.bin .mul) [.i 2,.t 11],.a 13 (.bin .add) 12 1,.m 9 13] (.seq (.r [.m 14 9,.m 15 2,.b 16 (.bin .geq) 14 15] (.cond (.t 16) (.exit 0) .skip)) (.seq (.seq (.par (.step 0 (.m 17 9) (.step 1 (.a 18 (.bin .add) 17 1) (.step 2 (.m 19 2) (.step 3 (.b 20 (.bin .lss) 18 19) (.step 4 (.m 21 20) (.step 5 (.M 22 0 21 true) (.step 6 (.M 23 3 21 true) (.step 7 (.M 24 9 21 true) (.step 8 (.B 25 (.bin .add) 23 24 21 true) (.step 11 (.M 28 0 21 true) (.step 12 (.M 29 3 21 true) (.step 13 (.M 30 9 21 true) (.step 14 (.B 31 (.bin .add) 29 30 21 true) (.step 15 (.P 32 (.bin .add) [.t 31,.i 1] 21 true) (.step 9 (.B 26 (.idxp 1) 22 25 21 true) (.step 10 (.U 27 (.load false 1) 26 21 true) (.step 16 (.B 33 (.idxp 1) 28 32 21 true) (.step 17 (.U 34 (.load false 1) 33 21 true) (.step 18 (.B 35 (.call 114) 27 34 21 true) (.step 19 (.p 36 .pick [.t 21,.t 35,.F]) .done))))))))))))))))))))) (.cond (.t 36) (.reg [.m 37 9,.a 38 (.bin .add) 37 1,.m 9 38]) .skip)) (.seq (.seq (.par (.step 0 (.m 39 0) (.step 1 (.m 40 3) (.step 2 (.m 41 8) (.step 3 (.b 42 (.bin .add) 40 41) (.step 6 (.m 45 0) (.step 7 (.m 46 3) (.step 8 (.m 47 9) (.step 9 (.b 48 (.bin .add) 46 47) (.step 4 (.b 43 (.idxp 1) 39 42) (.step 5 (.u 44 (.load false 1) 43) (.step 10 (.b 49 (.idxp 1) 45 48) (.step 11 (.u 50 (.load false 1) 49) (.step 12 (.b 51 (.call 114) 44 50) (.step 13 (.u 52 (.un .not) 51) .done))))))))))))))) (.cond (.t 52) .ret .skip)) (.seq (.par (.step 0 (.m 53 0) (.step 1 (.m 54 3) (.step 2 (.m 55 8) (.step 3 (.b 56 (.bin .add) 54 55) (.step 4 (.m 57 0) (.step 5 (.m 58 3) (.step 6 (.m 59 9) (.step 7 (.b 60 (.bin .add) 58 59) (.step 8 (.m 61 0) (.step 9 (.m 62 3) (.step 10 (.m 63 9) (.step 11 (.b 64 (.bin .add) 62 63) (.step 14 (.m 67 0) (.step 15 (.m 68 3) (.step 16 (.m 69 8) (.step 17 (.b 70 (.bin .add) 68 69) (.step 12 (.b 65 (.idxp 1) 61 64) (.step 13 (.u 66 (.load false 1) 65) (.step 18 (.b 71 (.idxp 1) 67 70) (.step 19 (.u 72 (.load false 1) 71) (.step 20 (.b 73 (.idxp 1) 53 56) (.step 21 ⟨none,.store 1, [.t 73,.t 66], none⟩ (.step 22 (.b 74 (.idxp 1) 57 60) (.step 23 ⟨none,.store 1, [.t 74,.t 72], none⟩ .done))))))))))))))))))))))))) (.reg [.m 75 9,.m 8 75]))))))))))
theorem ok114e : compF Tryz.prog Tryz.f250 ⟨true, false, []⟩ = some (c114, [], 76) := by kernel_rfl
def c82 : AC := (.r [.m 11 1,.m 6 11] (.r [.v 7 (.int .i64 0)] (.r [.m 12 2,.m 13 1,.b 14 (.bin .sub) 12 13,.m 8 14] (.seq (.r [.m 15 8,.a 16 (.bin .sub) 15 1,.a 17 (.bin .quo) 16 2,.m 9 17] (.block 0 (.loop (.seq (.r [.m 18 9,.a 19 (.bin .geq) 18 0] (.w 19 0)) (.seq (.block 1 (.reg [.m 22 0,.m 23 9,.m 24 8,.m 25 6,.p 26 (.call 250) [.t 22,.t 23,.t 24,.t 25]])) (.reg [.m 20 9,.a 21 (.bin .sub) 20 1,.m 9 21])))))) (.r [.m 27 8,.a 28 (.bin .sub) 27 1,.m 10 28] (.block 2 (.loop (.seq (.r [.m 29 10,.a 30 (.bin .geq) 29 0] (.w 30 2)) (.seq (.block 3 (.seq (.par (.step 0 (.m 33 0) (.step 1 (.m 34 6) (.step 2 (.m 35 0) (.step 3 (.m 36 6) (.step 4 (.m 37 10) (.step 5 (.b 38 (.bin .add) 36 37) (.step 6 (.m 39 0) (.step 7 (.m 40 6) (.step 8 (.m 41 10) (.step 9 (.b 42 (.bin .add) 40 41) (.step 12 (.m 45 0) (.step 13 (.m 46 6) (.step 10 (.b 43 (.idxp 1) 39 42) (.step 11 (.u 44 (.load false 1) 43) (.step 14 (.b 47 (.idxp 1) 45 46) (.step 15 (.u 48 (.load false 1) 47) (.step 16 (.b 49 (.idxp 1) 33 34) (.step 17 ⟨none,.store 1, [.t 49,.t 44], none⟩ (.step 18 (.b 50 (.idxp 1) 35 38) (.step 19 ⟨none,.store 1, [.t 50,.t 48], none⟩ .done))))))))))))))))))))) (.reg [.m 51 0,.m 52 7,.m 53 10,.m 54 6,.p 55 (.call 250) [.t 51,.t 52,.t 53,.t 54]]))) (.reg [.m 31 10,.a 32 (.bin .sub) 31 1,.m 10 32]))))))))))
theorem ok82e : compF Tryz.prog Tryz.f211 ⟨true, false, []⟩ = some (c82, [], 56) := by kernel_rfl
def c85 : AC := (.r [.m 8 1,.m 6 8] (.r [.m 9 2,.a 10 (.bin .sub) 9 1,.m 7 10] (.block 0 (.loop (.seq (.r [.m 11 6,.m 12 7,.b 13 (.bin .lss) 11 12] (.w 13 0)) (.block 1 (.seq (.par (.step 0 (.m 14 0) (.step 1 (.m 15 6) (.step 2 (.m 16 0) (.step 3 (.m 17 7) (.step 4 (.m 18 0) (.step 5 (.m 19 7) (.step 8 (.m 22 0) (.step 9 (.m 23 6) (.step 6 (.b 20 (.idxp 1) 18 19) (.step 7 (.u 21 (.load false 1) 20) (.step 10 (.b 24 (.idxp 1) 22 23) (.step 11 (.u 25 (.load false 1) 24) (.step 12 (.b 26 (.idxp 1) 14 15) (.step 13 ⟨none,.store 1, [.t 26,.t 21], none⟩ (.step 14 (.b 27 (.idxp 1) 16 17) (.step 15 ⟨none,.store 1, [.t 27,.t 25], none⟩ .done))))))))))))))))) (.r [.m 28 6,.a 29 (.bin .add) 28 1,.m 6 29] (.reg [.m 30 7,.a 31 (.bin .sub) 30 1,.m 7 31])))))))))
theorem ok85e : compF Tryz.prog Tryz.f214 ⟨true, false, []⟩ = some (c85, [], 32) := by kernel_rfl
variable {E : Env}
theorem isNaN_c (hP : PE E) (W : AW) (a : Int) : ACalls E 117 [.int .u16 a] W fun X W' => X = .bool false ∧ W' = W := by
 refine ACalls.of hP Tryz.func117 ok119e (by simp) fun _ _ => ?_
 simp only [c119, BZ, ↓reduceIte, nE, reduceCtorEq]
 exact ⟨_, rfl, _, _, .weak weak_id, lr _, by simp, rfl⟩
theorem less_c (hP : PE E) (W : AW) (a b : Int) : ACalls E 114 [.int .u16 a, .int .u16 b] W fun X W' => X = .bool (decide (a < b)) ∧ W' = W := by
 refine ACalls.of hP Tryz.func114 ok87e (by simp) fun _ _ => ?_
 simp only [c87, BZ, ↓reduceIte, reduceCtorEq]
 refine (isNaN_c hP W _).mono ?_
 rintro X W' ⟨rfl, rfl⟩
 simp only [BS, BC, guard_if, ↓reduceIte, nE, reduceCtorEq]
 exact ⟨_, rfl, _, _, .weak weak_id, lr _, rfl, rfl⟩
def cellsI (d : Array Int) : List V := d.toList.map (V.int .u16)
theorem cellsI_len (d : Array Int) : (cellsI d).length = d.size := by simp [cellsI]
theorem part_cellsI {d : Array Int} {i : Nat} (h : i < d.size) : partV (cellsI d) i 1 false = some (.int .u16 d[i]!) := by
 simp [partV, cellsI, h]
def pv (W : AW) (r : Nat) (d : Array Int) : AW := W.put r (.vec 1 (cellsI d))
theorem pv_get {W : AW} {r : Nat} {d : Array Int} : (pv W r d).get r = some (.vec 1 (cellsI d)) := by simp [pv, AW.put]
theorem pv_nx {W : AW} {r : Nat} {d : Array Int} : (pv W r d).nx = W.nx := id rfl
theorem pv_self {W : AW} {r : Nat} {d : Array Int} (h : W.get r = some (.vec 1 (cellsI d))) : pv W r d = W := put_same h
theorem ix {W : AW} {K : V → AW → Prop} {r n i : Nat} (h : i < n) : sem E (.idxp 1) [.slr r 0 n 1, .int .i64 (i : Int)] W K = K (.vptr r i) W := by
 rw [sem_idxp_slr (by omega) (by omega)]; simp
theorem ld {W : AW} {K : V → AW → Prop} {r i : Nat} {d : Array Int} (h : i < d.size) : sem E (.load false 1) [.vptr r i] (pv W r d) K = K (.int .u16 d[i]!) (pv W r d) :=
 sem_load_vec pv_get (part_cellsI h)
theorem st {W : AW} {K : V → AW → Prop} {r i : Nat} {d : Array Int} {v : Int} (h : i < d.size) : sem E (.store 1) [.vptr r i, .int .u16 v] (pv W r d) K = K .undef (pv W r (d.setIfInBounds i v)) := by
 rw [sem_store_vec (s := 1) (x := .int .u16 v) pv_get rfl rfl (by rw [cellsI_len]; omega)]
 congr 1
 show (pv W r d).put r _ = _
 rw [show (pv W r d).put r (.vec 1 ((cellsI d).take i ++ (V.int .u16 v).cells ++ (cellsI d).drop (i + 1))) = W.put r (.vec 1 ((cellsI d).take i ++ (V.int .u16 v).cells ++ (cellsI d).drop (i + 1))) from by
  simp only [pv, AW.put, AW.mk.injEq, and_true]
  funext x
  by_cases h : x = r <;> simp [h]]
 have e : (cellsI d).take i ++ (V.int .u16 v).cells ++ (cellsI d).drop (i + 1) = cellsI (d.setIfInBounds i v) := by
  have : (V.int .u16 v).cells = [V.int .u16 v] := rfl
  rw [this, show (cellsI d).take i ++ [V.int .u16 v] ++ (cellsI d).drop (i + 1) = (cellsI d).set i (V.int .u16 v) from by
   rw [List.set_eq_take_append_cons_drop, if_pos (by rw [cellsI_len]; exact h)]; simp]
  simp [cellsI, List.map_set]
 rw [e]; rfl
theorem sz_set {d : Array Int} {i : Nat} {v : Int} : (d.setIfInBounds i v).size = d.size := by simp
theorem sw {d : Array Int} {i j : Nat} : (d.setIfInBounds i d[j]!).setIfInBounds j d[i]! = swp d i j := id rfl
theorem wn {n : Nat} (h : n < 2 ^ 63) : IntKind.i64.wrap (n : Int) = n := IntWalk.i64_in _ (by omega)
theorem wadd {a b : Nat} (h : a + b < 2 ^ 63) : IntKind.i64.wrap ((a : Int) + (b : Int)) = ((a + b : Nat) : Int) := by rw [← wn h]; congr 1
theorem wadd1 {a : Nat} (h : a + 1 < 2 ^ 63) : IntKind.i64.wrap ((a : Int) + 1) = ((a + 1 : Nat) : Int) := by rw [← wn h]; congr 1
theorem wsub {a b : Nat} (h : b ≤ a) (h' : a < 2 ^ 63) : IntKind.i64.wrap ((a : Int) - (b : Int)) = ((a - b : Nat) : Int) := by rw [← wn (show a - b < 2 ^ 63 by omega)]; congr 1; omega
theorem wsub1 {a : Nat} (h : 1 ≤ a) (h' : a < 2 ^ 63) : IntKind.i64.wrap ((a : Int) - 1) = ((a - 1 : Nat) : Int) := by rw [← wn (show a - 1 < 2 ^ 63 by omega)]; congr 1; omega
theorem wmul2 {a : Nat} (h : 2 * a < 2 ^ 63) : IntKind.i64.wrap (2 * (a : Int)) = ((2 * a : Nat) : Int) := by rw [← wn h]; congr 1
theorem clt {a b : Nat} : decide ((a : Int) < (b : Int)) = decide (a < b) := by simp
theorem cge {a b : Nat} : decide ((a : Int) ≥ (b : Int)) = decide (a ≥ b) := by simp
theorem cgt {a b : Nat} : decide ((a : Int) > (b : Int)) = decide (a > b) := by simp
theorem cle {a b : Nat} : decide ((a : Int) ≤ (b : Int)) = decide (a ≤ b) := by simp
theorem reverseRange_c (hP : PE E) (W : AW) (r n a b : Nat) (d : Array Int) (hn : d.size = n) (hb : b ≤ n) (hb1 : 1 ≤ b) (hsm : n < 2 ^ 48) :
  ACalls E 214 [.slr r 0 n 1, .int .i64 a, .int .i64 b] (pv W r d) fun X W' => X = .tuple [] ∧ W' = pv W r (reverseRange d a b) := by
 refine ACalls.of hP Tryz.func214 ok85e (by simp) fun _ _ => ?_
 simp (maxSteps:=9^9) (disch:=omega) only [c85, BZ, ↓reduceIte, nE, wsub1, e_loop]
 refine alp (fun (s : Nat × Nat × Array Int) A1 W1 => A1 0 = some (.slr r 0 n 1) ∧ A1 6 = some (.int .i64 s.1) ∧ A1 7 = some (.int .i64 s.2.1) ∧
  W1 = pv W r s.2.2 ∧ s.2.1 < n ∧ s.2.2.size = n ∧ reverseLoop s.1 s.2.1 s.2.2 = reverseRange d a b) (fun s => s.2.1 - s.1) (a, b - 1, d)
  ⟨rfl, rfl, rfl, rfl, by simp; omega, hn, rfl⟩ ?_
 rintro ⟨i, j, d1⟩ A1 W1 ⟨g0, g6, g7, rfl, gj, gs, gt⟩ _
 simp only at g6 g7 gj gs gt
 simp only [BS, e_seq, cond_if, ↓reduceIte, nE, reduceCtorEq, g0, g6, g7, clt]
 by_cases h : i < j
 ·simp (disch := (try simp only [sz_set]) <;> omega) only [BS, e_seq, ↓reduceIte, nE, reduceCtorEq, h, dT, g0, g6, g7, ix, ld, st, wadd1, wsub1, sw]
  refine ⟨(i + 1, j - 1, swp d1 i j), ⟨tt, rfl, rfl, rfl, by simp; omega, by simp [swp, gs], ?_⟩, by simp; omega, lr _⟩
  rw [← gt, reverseLoop.eq_def i j d1, if_pos h]
 ·simp only [BC, ↓reduceIte, h, dF]
  refine ⟨_, rfl, _, _, .weak weak_id, lr _, rfl, ?_⟩
  rw [← gt, reverseLoop, if_neg h]
theorem siftDown_c (hP : PE E) (W : AW) (r n lo hi first : Nat) (d : Array Int) (hn : d.size = n) (hh : first + hi ≤ n) (hlo : lo ≤ n) (hsm : n < 2 ^ 48) :
  ACalls E 250 [.slr r 0 n 1, .int .i64 lo, .int .i64 hi, .int .i64 first] (pv W r d) fun X W' => X = .tuple [] ∧ W' = pv W r (siftDown ltInt hi first lo d) := by
 refine ACalls.of hP Tryz.func250 ok114e (by simp) fun _ _ => ?_
 simp only [c114, BZ, ↓reduceIte, e_loop]
 refine alp (fun (s : Nat × Array Int) A1 W1 => A1 0 = some (.slr r 0 n 1) ∧ A1 2 = some (.int .i64 hi) ∧ A1 3 = some (.int .i64 first) ∧ A1 8 = some (.int .i64 s.1) ∧
  W1 = pv W r s.2 ∧ s.1 ≤ n ∧ s.2.size = n ∧ siftDown ltInt hi first s.1 s.2 = siftDown ltInt hi first lo d) (fun s => n - s.1) (lo, d)
  ⟨rfl, rfl, rfl, rfl, rfl, hlo, hn, rfl⟩ ?_
 rintro ⟨root, d1⟩ A1 W1 ⟨g0, g2, g3, g8, rfl, gr, gs, gt⟩ _
 simp only at g8 gr gs gt
 rw [siftDown.eq_def ltInt hi first root d1] at gt
 by_cases h1 : 2 * root + 1 ≥ hi
 ·simp (maxSteps:=9^9) (disch:=omega) only [BS, e_seq, cond_if, ↓reduceIte, nE, reduceCtorEq, g2, g8, wmul2, wadd1, cge, h1, dT]
  rw [dif_pos h1] at gt
  exact ⟨_, rfl, _, _, .weak weak_id, lr _, rfl, by rw [← gt]⟩
 rw [dif_neg h1] at gt
 have fin : ∀ c, root < c → c < hi → (if !ltInt d1[first + root]! d1[first + c]! then d1 else siftDown ltInt hi first c (swp d1 (first + root) (first + c))) = siftDown ltInt hi first lo d →
   (¬ d1[first + root]! < d1[first + c]! → d1 = siftDown ltInt hi first lo d) ∧ (d1[first + root]! < d1[first + c]! → siftDown ltInt hi first c (swp d1 (first + root) (first + c)) = siftDown ltInt hi first lo d) := by
  intro c _ _ h
  by_cases h4 : d1[first + root]! < d1[first + c]!
  ·simp [ltInt, h4] at h; exact ⟨fun h' => absurd h4 h', fun _ => h⟩
  ·simp [ltInt, h4] at h; exact ⟨fun _ => h, fun h' => absurd h' h4⟩
 by_cases h2 : 2 * root + 1 + 1 < hi
 ·simp (maxSteps:=9^9) (disch:=omega) only [BX, guard_if, ↓reduceIte, nE, reduceCtorEq, h1, dF, h2, dT, g0, g2, g3, g8, wmul2, wadd1, wadd, cge, clt, ix, ld]
  refine (less_c hP _ _ _).mono ?_
  rintro X W' ⟨rfl, rfl⟩
  by_cases h3 : d1[first + (2 * root + 1)]! < d1[first + (2 * root + 1) + 1]!
  ·obtain ⟨c, hc⟩ : ∃ c, c = 2 * root + 2 := ⟨_, rfl⟩
   have wc : IntKind.i64.wrap (((2 * root + 1 : Nat) : Int) + 1) = (c : Int) := by rw [wadd1 (by omega), hc]
   rw [if_pos (by simp [h2, ltInt, h3])] at gt
   have f := fin c (by omega) (by omega) (by rw [← gt, hc, dif_pos (by omega)])
   simp (maxSteps:=9^9) (disch:=omega) only [BX, ↓reduceIte, nE, reduceCtorEq, h3, dT, g0, g3, g8, wc, wadd, ix, ld]
   refine (less_c hP _ _ _).mono ?_
   rintro X W' ⟨rfl, rfl⟩
   by_cases h4 : d1[first + root]! < d1[first + c]!
   ·simp (disch := (try simp only [sz_set]) <;> omega) only [BX, ↓reduceIte, nE, reduceCtorEq, h4, dT, Bool.not_true, g0, g2, g3, g8, wadd, ix, ld, st, sw]
    exact ⟨(c, swp d1 (first + root) (first + c)), ⟨tt, tt, tt, rfl, rfl, by simp; omega, by simp [swp, gs], f.2 h4⟩, by simp; omega, lr _⟩
   ·simp only [BS, cond_if, ↓reduceIte, h4, dF, Bool.not_false]
    exact ⟨_, rfl, _, _, .weak weak_id, lr _, rfl, by rw [← f.1 h4]⟩
  ·obtain ⟨c, hc⟩ : ∃ c, c = 2 * root + 1 := ⟨_, rfl⟩
   rw [if_neg (by simp [h2, ltInt, h3])] at gt
   have f := fin c (by omega) (by omega) (by rw [← gt, hc])
   rw [← hc] at h3
   simp (maxSteps:=9^9) (disch:=omega) only [BX, ↓reduceIte, nE, reduceCtorEq, h3, dF, g0, g3, g8, ← hc, wadd, ix, ld]
   refine (less_c hP _ _ _).mono ?_
   rintro X W' ⟨rfl, rfl⟩
   by_cases h4 : d1[first + root]! < d1[first + c]!
   ·simp (disch := (try simp only [sz_set]) <;> omega) only [BX, ↓reduceIte, nE, reduceCtorEq, h4, dT, Bool.not_true, g0, g2, g3, g8, wadd, ix, ld, st, sw]
    exact ⟨(c, swp d1 (first + root) (first + c)), ⟨tt, tt, tt, rfl, rfl, by simp; omega, by simp [swp, gs], f.2 h4⟩, by simp; omega, lr _⟩
   ·simp only [BS, cond_if, ↓reduceIte, h4, dF, Bool.not_false]
    exact ⟨_, rfl, _, _, .weak weak_id, lr _, rfl, by rw [← f.1 h4]⟩
 ·obtain ⟨c, hc⟩ : ∃ c, c = 2 * root + 1 := ⟨_, rfl⟩
  rw [if_neg (by simp [h2])] at gt
  have f := fin c (by omega) (by omega) (by rw [← gt, hc])
  rw [← hc] at h1 h2
  simp (maxSteps:=9^9) (disch:=omega) only [BX, guard_if, ↓reduceIte, nE, reduceCtorEq, h1, dF, h2, g0, g2, g3, g8, wmul2, wadd1, wadd, cge, clt, ← hc, ix, ld]
  refine (less_c hP _ _ _).mono ?_
  rintro X W' ⟨rfl, rfl⟩
  by_cases h4 : d1[first + root]! < d1[first + c]!
  ·simp (disch := (try simp only [sz_set]) <;> omega) only [BX, ↓reduceIte, nE, reduceCtorEq, h4, dT, Bool.not_true, g0, g2, g3, g8, wadd, ix, ld, st, sw]
   exact ⟨(c, swp d1 (first + root) (first + c)), ⟨tt, tt, tt, rfl, rfl, by simp; omega, by simp [swp, gs], f.2 h4⟩, by simp; omega, lr _⟩
  ·simp only [BS, cond_if, ↓reduceIte, h4, dF, Bool.not_false]
   exact ⟨_, rfl, _, _, .weak weak_id, lr _, rfl, by rw [← f.1 h4]⟩
theorem quoN {W : AW} {K : V → AW → Prop} {n : Nat} (c : Nat) (hc : 0 < c) (h : n < 2 ^ 63) : sem E (.bin .quo) [.int .i64 (n : Int), .int .i64 (c : Int)] W K = K (.int .i64 ((n / c : Nat) : Int)) W := by
 have h1 : ¬ ((c : Int) = 0) := by omega
 have h2 : (n : Int).tdiv (c : Int) = ((n / c : Nat) : Int) := by simp
 have h3 : n / c < 2 ^ 63 := Nat.lt_of_le_of_lt (Nat.div_le_self _ _) h
 have h4 : binI .quo .i64 n c = some (.int .i64 ((n / c : Nat) : Int)) := by simp only [binI, h1, ↓reduceIte, h2, wn h3]
 simp only [sem, rsem, tsem, ↓reduceIte, h4]
theorem quo2 {W : AW} {K : V → AW → Prop} {n : Nat} (h : n < 2 ^ 63) : sem E (.bin .quo) [.int .i64 (n : Int), .int .i64 2] W K = K (.int .i64 ((n / 2 : Nat) : Int)) W := quoN 2 (by decide) h
theorem quo4 {W : AW} {K : V → AW → Prop} {n : Nat} (h : n < 2 ^ 63) : sem E (.bin .quo) [.int .i64 (n : Int), .int .i64 4] W K = K (.int .i64 ((n / 4 : Nat) : Int)) W := quoN 4 (by decide) h
theorem quo8 {W : AW} {K : V → AW → Prop} {n : Nat} (h : n < 2 ^ 63) : sem E (.bin .quo) [.int .i64 (n : Int), .int .i64 8] W K = K (.int .i64 ((n / 8 : Nat) : Int)) W := quoN 8 (by decide) h
theorem wsubm {k : Nat} (h : k < 2 ^ 63) : IntKind.i64.wrap ((k : Int) - 1) = (k : Int) - 1 := IntWalk.i64_in _ (by omega)
theorem cge0 {k : Nat} : decide ((k : Int) ≥ 0) = true := by simp
theorem succ_pred (k : Nat) : (((k + 1 : Nat) : Int) - 1) = (k : Int) := by omega
theorem siftDown_size (lt : Int → Int → Bool) (hi first : Nat) : ∀ (m root : Nat) (d : Array Int), hi - root ≤ m → (siftDown lt hi first root d).size = d.size := by
 intro m
 induction m with
 | zero => intro root d h; rw [siftDown.eq_def, dif_pos (by omega)]
 | succ m ih =>
  intro root d h
  rw [siftDown.eq_def]
  split
  ·rfl
  split
  ·split
   ·rfl
   split
   ·rw [ih _ _ (by omega)]; simp [swp]
   ·rfl
  ·split
   ·rfl
   ·rw [ih _ _ (by omega)]; simp [swp]
theorem heapSort_c (hP : PE E) (W : AW) (r n a b : Nat) (d : Array Int) (hn : d.size = n) (hab : a < b) (hb : b ≤ n) (hsm : n < 2 ^ 48) :
  ACalls E 211 [.slr r 0 n 1, .int .i64 a, .int .i64 b] (pv W r d) fun X W' => X = .tuple [] ∧ W' = pv W r (heapSort ltInt d a b) := by
 refine ACalls.of hP Tryz.func211 ok82e (by simp) fun _ _ => ?_
 obtain ⟨hi, hhi⟩ : ∃ hi, hi = b - a := ⟨_, rfl⟩
 simp (maxSteps:=9^9) (disch:=omega) only [c82, BZ, ↓reduceIte, nE, e_loop, wsub, wsub1, quo2, ← hhi]
 refine alp (fun (s : Nat × Array Int) A1 W1 => A1 0 = some (.slr r 0 n 1) ∧ A1 6 = some (.int .i64 a) ∧ A1 7 = some (.int .i64 0) ∧ A1 8 = some (.int .i64 hi) ∧ A1 9 = some (.int .i64 ((s.1 : Int) - 1)) ∧
  W1 = pv W r s.2 ∧ s.1 ≤ n ∧ s.2.size = n ∧ heapPop ltInt a hi (heapBuild ltInt hi a s.1 s.2) = heapSort ltInt d a b) (fun s => s.1) ((hi - 1) / 2 + 1, d)
  ⟨rfl, rfl, rfl, rfl, by rw [succ_pred]; rfl, rfl, by simp; omega, hn, by rw [heapSort, hhi]⟩ ?_
 rintro ⟨k, d1⟩ A1 W1 ⟨g0, g6, g7, g8, g9, rfl, gk, gs, gt⟩ _
 simp only at g9 gk gs gt
 cases k with
 | succ k =>
  rw [succ_pred] at g9
  simp (maxSteps:=9^9) (disch:=omega) only [BX, ↓reduceIte, nE, reduceCtorEq, g0, g6, g8, g9, cge0]
  refine (siftDown_c hP W r n k hi a d1 gs (by omega) (by omega) hsm).mono ?_
  rintro X W' ⟨rfl, rfl⟩
  simp (maxSteps:=9^9) (disch:=omega) only [BS, ↓reduceIte, nE, reduceCtorEq, g0, g6, g7, g8, g9, wsubm]
  exact ⟨(k, siftDown ltInt hi a k d1), ⟨tt, tt, tt, tt, rfl, rfl, by simp; omega, by rw [siftDown_size _ _ _ _ _ _ (lr _), gs], gt⟩, by simp, lr _⟩
 | zero =>
  have c0 : decide ((((0 : Nat) : Int) - 1) ≥ 0) = false := by decide
  simp (maxSteps:=9^9) (disch:=omega) only [BX, ↓reduceIte, nE, g8, g9, c0, wsubm, e_loop]
  refine alp (fun (s : Nat × Array Int) A1 W1 => A1 0 = some (.slr r 0 n 1) ∧ A1 6 = some (.int .i64 a) ∧ A1 7 = some (.int .i64 0) ∧ A1 10 = some (.int .i64 ((s.1 : Int) - 1)) ∧
   W1 = pv W r s.2 ∧ s.1 ≤ hi ∧ s.2.size = n ∧ heapPop ltInt a s.1 s.2 = heapSort ltInt d a b) (fun s => s.1) (hi, d1)
   ⟨g0, g6, g7, rfl, rfl, lr _, gs, gt⟩ ?_
  rintro ⟨k, d2⟩ A2 W2 ⟨q0, q6, q7, q10, rfl, qk, qs, qt⟩ _
  simp only at q10 qk qs qt
  cases k with
  | succ k =>
   rw [succ_pred] at q10
   have z : (0 : Int) = ((0 : Nat) : Int) := rfl
   simp (disch := (try simp only [sz_set]) <;> omega) only [BX, ↓reduceIte, nE, reduceCtorEq, q0, q6, q7, q10, cge0, wadd, ix, ld, st, sw]
   refine (siftDown_c hP W r n 0 k a (swp d2 a (a + k)) (by simp [swp, qs]) (by omega) (by omega) hsm).mono ?_
   rintro X W' ⟨rfl, rfl⟩
   simp (maxSteps:=9^9) (disch:=omega) only [BS, ↓reduceIte, nE, reduceCtorEq, q0, q6, q7, q10, wsubm]
   exact ⟨(k, siftDown ltInt k a 0 (swp d2 a (a + k))), ⟨tt, tt, tt, rfl, rfl, by simp; omega, by rw [siftDown_size _ _ _ _ _ _ (lr _)]; simp [swp, qs], qt⟩, by simp, lr _⟩
  | zero =>
   have c0 : decide ((((0 : Nat) : Int) - 1) ≥ 0) = false := by decide
   simp (maxSteps:=9^9) (disch:=omega) only [BX, ↓reduceIte, q10, c0]
   exact ⟨_, rfl, _, _, .weak weak_id, lr _, rfl, by rw [← qt]; rfl⟩
def c134 : AC := (.r [.v 8 (.int .i64 0),.v 9 (.int .i64 0)] (.seq (.seq (.par (.step 0 (.m 10 0) (.step 1 (.m 11 2) (.step 4 (.m 14 0) (.step 5 (.m 15 1) (.step 2 (.b 12 (.idxp 1) 10 11) (.step 3 (.u 13 (.load false 1) 12) (.step 6 (.b 16 (.idxp 1) 14 15) (.step 7 (.u 17 (.load false 1) 16) (.step 8 (.b 18 (.call 114) 13 17) .done)))))))))) (.cond (.t 18) (.r [.m 19 3,.u 20 .nilck 19,.u 21 (.load false 1) 20,.a 22 (.bin .add) 21 1,.u 23 .nilck 19,⟨none,.store 1, [.t 23,.t 22], none⟩] (.r [.m 24 2,.m 25 1,.m 8 24,.m 9 25] .ret)) .skip)) (.r [.m 26 1,.m 27 2,.m 8 26,.m 9 27] .ret)))
theorem ok134e : compF Tryz.prog Tryz.f258 ⟨true, false, []⟩ = some (c134, [.tmp 8, .tmp 9], 28) := by kernel_rfl
def c118 : AC := (.r [.v 10 (.int .i64 0)] (.r [.m 12 0,.m 13 1,.m 14 2,.m 15 4,.p 16 (.call 258) [.t 12,.t 13,.t 14,.t 15],.m 11 16,.u 17 (.ext 0) 11,.u 18 (.ext 1) 11,.m 1 17,.m 2 18] (.r [.m 20 0,.m 21 2,.m 22 3,.m 23 4,.p 24 (.call 258) [.t 20,.t 21,.t 22,.t 23],.m 19 24,.u 25 (.ext 0) 19,.u 26 (.ext 1) 19,.m 2 25,.m 3 26] (.r [.m 28 0,.m 29 1,.m 30 2,.m 31 4,.p 32 (.call 258) [.t 28,.t 29,.t 30,.t 31],.m 27 32,.u 33 (.ext 0) 27,.u 34 (.ext 1) 27,.m 1 33,.m 2 34] (.r [.m 35 2,.m 10 35] .ret)))))
theorem ok118e : compF Tryz.prog Tryz.f252 ⟨true, false, []⟩ = some (c118, [.tmp 10], 36) := by kernel_rfl
def c117 : AC := (.r [.v 6 (.int .i64 0)] (.r [.m 7 0,.m 8 1,.a 9 (.bin .sub) 8 1,.m 10 1,.m 11 1,.a 12 (.bin .add) 11 1,.m 13 2,.p 14 (.call 252) [.t 7,.t 9,.t 10,.t 12,.t 13],.m 6 14] .ret))
theorem ok117e : compF Tryz.prog Tryz.f251 ⟨true, false, []⟩ = some (c117, [.tmp 6], 15) := by kernel_rfl
def c84 : AC := (.r [.v 6 (.int .i64 0),.v 7 (.int .i64 0)] (.r [.m 13 2,.m 14 1,.b 15 (.bin .sub) 13 14,.m 8 15] (.r [.p 9 (.alloc [.int .i64 0]) []] (.r [.m 16 1,.m 17 8,.a 18 (.bin .quo) 17 4,.a 19 (.bin .mul) 18 1,.b 20 (.bin .add) 16 19,.m 10 20] (.r [.m 21 1,.m 22 8,.a 23 (.bin .quo) 22 4,.a 24 (.bin .mul) 23 2,.b 25 (.bin .add) 21 24,.m 11 25] (.r [.m 26 1,.m 27 8,.a 28 (.bin .quo) 27 4,.a 29 (.bin .mul) 28 3,.b 30 (.bin .add) 26 29,.m 12 30] (.seq (.r [.m 31 8,.a 32 (.bin .geq) 31 8] (.cond (.t 32) (.seq (.r [.m 33 8,.a 34 (.bin .geq) 33 50] (.cond (.t 34) (.r [.m 35 0,.m 36 10,.p 37 (.call 251) [.t 35,.t 36,.t 9],.m 10 37] (.r [.m 38 0,.m 39 11,.p 40 (.call 251) [.t 38,.t 39,.t 9],.m 11 40] (.reg [.m 41 0,.m 42 12,.p 43 (.call 251) [.t 41,.t 42,.t 9],.m 12 43]))) .skip)) (.reg [.m 44 0,.m 45 10,.m 46 11,.m 47 12,.p 48 (.call 252) [.t 44,.t 45,.t 46,.t 47,.t 9],.m 11 48])) .skip)) (.r [.u 49 (.load false 1) 9] (.block 0 (.r [.a 52 (.bin .eql) 49 0,.m 51 52] (.cond (.t 51) (.r [.m 53 11,.m 6 53,.v 7 (.int .i64 1)] .ret) (.r [.a 55 (.bin .eql) 49 12,.m 54 55] (.cond (.t 54) (.r [.m 56 11,.m 6 56,.v 7 (.int .i64 2)] .ret) (.r [.m 50 11,.m 6 50,.v 7 (.int .i64 0)] .ret))))))))))))))
theorem ok84e : compF Tryz.prog Tryz.f213 ⟨true, false, []⟩ = some (c84, [.tmp 6, .tmp 7], 57) := by kernel_rfl
def pq (A : AW) (p s : Nat) : AW := A.put p (.row [.int .i64 (s : Int)])
theorem pq_pq {A : AW} {p s t : Nat} : (pq A p s).put p (.row [.int .i64 (t : Int)]) = pq A p t := by
 simp only [pq, AW.put, AW.mk.injEq, and_true]
 funext x
 by_cases h : x = p <;> simp [h]
theorem pq_get {A : AW} {p s : Nat} : (pq A p s).get p = some (.row [.int .i64 (s : Int)]) := by simp [pq, AW.put]
theorem ldq {A : AW} {K : V → AW → Prop} {r p s i : Nat} {d : Array Int} (hA : A.get r = some (.vec 1 (cellsI d))) (hp : r ≠ p) (h : i < d.size) :
  sem E (.load false 1) [.vptr r i] (pq A p s) K = K (.int .u16 d[i]!) (pq A p s) :=
 sem_load_vec (s' := 1) (cells := cellsI d) (by simp [pq, AW.put, hp, hA]) (part_cellsI h)
theorem ldp {A : AW} {K : V → AW → Prop} {p s : Nat} : sem E (.load false 1) [.ptr p 0] (pq A p s) K = K (.int .i64 (s : Int)) (pq A p s) := sem_load_row pq_get rfl
theorem stp {A : AW} {K : V → AW → Prop} {p s t : Nat} : sem E (.store 1) [.ptr p 0, .int .i64 (t : Int)] (pq A p s) K = K .undef (pq A p t) := by
 rw [sem_store_row (s := 1) (x := .int .i64 (t : Int)) pq_get rfl rfl (by simp)]
 show K .undef ((pq A p s).put p (.row [.int .i64 (t : Int)])) = _
 rw [pq_pq]
theorem order2_c (hP : PE E) {A : AW} {r p s n a b : Nat} {d : Array Int} (hA : A.get r = some (.vec 1 (cellsI d))) (hp : r ≠ p) (hn : d.size = n) (ha : a < n) (hb : b < n) (hs : s < 1000) :
  ACalls E 258 [.slr r 0 n 1, .int .i64 a, .int .i64 b, .ptr p 0] (pq A p s) fun X W' => X = .tuple [.int .i64 (order2 ltInt d a b s).1, .int .i64 (order2 ltInt d a b s).2.1] ∧ W' = pq A p (order2 ltInt d a b s).2.2 := by
 refine ACalls.of hP Tryz.func258 ok134e (by simp) fun _ _ => ?_
 simp (maxSteps:=9^9) (disch:=omega) only [c134, BZ, ↓reduceIte, nE, reduceCtorEq, ix, ldq hA hp]
 refine (less_c hP _ _ _).mono ?_
 rintro X W' ⟨rfl, rfl⟩
 by_cases h : d[b]! < d[a]!
 ·simp (maxSteps:=9^9) (disch:=omega) only [BX, ↓reduceIte, nE, h, dT, ldp, wadd1, stp]
  exact ⟨_, rfl, _, _, .weak weak_id, lr _, by simp [order2, ltInt, h], by simp [order2, ltInt, h]⟩
 ·simp (maxSteps:=9^9) (disch:=omega) only [BX, ↓reduceIte, nE, h, dF]
  exact ⟨_, rfl, _, _, .weak weak_id, lr _, by simp [order2, ltInt, h], by simp [order2, ltInt, h]⟩
theorem order2_le {d : Array Int} {a b s n : Nat} (ha : a < n) (hb : b < n) : (order2 ltInt d a b s).1 < n ∧ (order2 ltInt d a b s).2.1 < n ∧ (order2 ltInt d a b s).2.2 ≤ s + 1 := by
 unfold order2
 split <;> simp [ha, hb]
theorem median_c (hP : PE E) {A : AW} {r p s n a b c : Nat} {d : Array Int} (hA : A.get r = some (.vec 1 (cellsI d))) (hp : r ≠ p) (hn : d.size = n) (ha : a < n) (hb : b < n) (hc : c < n) (hs : s < 900) :
  ACalls E 252 [.slr r 0 n 1, .int .i64 a, .int .i64 b, .int .i64 c, .ptr p 0] (pq A p s) fun X W' => X = .int .i64 (median ltInt d a b c s).1 ∧ W' = pq A p (median ltInt d a b c s).2 := by
 refine ACalls.of hP Tryz.func252 ok118e (by simp) fun _ _ => ?_
 obtain ⟨l1, l2, l3⟩ := order2_le (d := d) (s := s) ha hb
 obtain ⟨m1, m2, m3⟩ := order2_le (d := d) (s := (order2 ltInt d a b s).2.2) l2 hc
 obtain ⟨n1, n2, n3⟩ := order2_le (d := d) (s := (order2 ltInt d (order2 ltInt d a b s).2.1 c (order2 ltInt d a b s).2.2).2.2) l1 m1
 simp only [c118, BZ, ↓reduceIte, nE, reduceCtorEq]
 refine (order2_c hP hA hp hn ha hb (by omega)).mono ?_
 rintro X W' ⟨rfl, rfl⟩
 simp only [BZ, ↓reduceIte, nE, reduceCtorEq]
 refine (order2_c hP hA hp hn l2 hc (by omega)).mono ?_
 rintro X W' ⟨rfl, rfl⟩
 simp only [BZ, ↓reduceIte, nE, reduceCtorEq]
 refine (order2_c hP hA hp hn l1 m1 (by omega)).mono ?_
 rintro X W' ⟨rfl, rfl⟩
 simp only [BZ, ↓reduceIte, nE]
 exact ⟨_, rfl, _, _, .weak weak_id, lr _, rfl, rfl⟩
theorem median_le {d : Array Int} {a b c s n : Nat} (ha : a < n) (hb : b < n) (hc : c < n) : (median ltInt d a b c s).1 < n ∧ (median ltInt d a b c s).2 ≤ s + 3 := by
 obtain ⟨l1, l2, l3⟩ := order2_le (d := d) (s := s) ha hb
 obtain ⟨m1, m2, m3⟩ := order2_le (d := d) (s := (order2 ltInt d a b s).2.2) l2 hc
 obtain ⟨n1, n2, n3⟩ := order2_le (d := d) (s := (order2 ltInt d (order2 ltInt d a b s).2.1 c (order2 ltInt d a b s).2.2).2.2) l1 m1
 exact ⟨n2, by simp only [median]; omega⟩
theorem medianAdjacent_c (hP : PE E) {A : AW} {r p s n a : Nat} {d : Array Int} (hA : A.get r = some (.vec 1 (cellsI d))) (hp : r ≠ p) (hn : d.size = n) (ha : 1 ≤ a) (hb : a + 1 < n) (hs : s < 900) (hsm : n < 2 ^ 48) :
  ACalls E 251 [.slr r 0 n 1, .int .i64 a, .ptr p 0] (pq A p s) fun X W' => X = .int .i64 (medianAdjacent ltInt d a s).1 ∧ W' = pq A p (medianAdjacent ltInt d a s).2 := by
 refine ACalls.of hP Tryz.func251 ok117e (by simp) fun _ _ => ?_
 simp (maxSteps:=9^9) (disch:=omega) only [c117, BZ, ↓reduceIte, nE, reduceCtorEq, wsub1, wadd1]
 refine (median_c hP hA hp hn (by omega) (by omega) (by omega) hs).mono ?_
 rintro X W' ⟨rfl, rfl⟩
 simp only [BS, BC, ↓reduceIte]
 exact ⟨_, rfl, _, _, .weak weak_id, lr _, rfl, rfl⟩
def hintN : Hint → Int
 | .unknown => 0 | .increasing => 1 | .decreasing => 2
theorem wmul1 {a : Nat} (h : a < 2 ^ 63) : IntKind.i64.wrap ((a : Int) * 1) = ((a * 1 : Nat) : Int) := by rw [← wn (show a * 1 < 2 ^ 63 by omega)]; congr 1
theorem wmulr2 {a : Nat} (h : a * 2 < 2 ^ 63) : IntKind.i64.wrap ((a : Int) * 2) = ((a * 2 : Nat) : Int) := by rw [← wn h]; congr 1
theorem wmulr3 {a : Nat} (h : a * 3 < 2 ^ 63) : IntKind.i64.wrap ((a : Int) * 3) = ((a * 3 : Nat) : Int) := by rw [← wn h]; congr 1
theorem cge8 {a : Nat} : decide ((a : Int) ≥ 8) = decide (a ≥ 8) := by simp; omega
theorem cge50 {a : Nat} : decide ((a : Int) ≥ 50) = decide (a ≥ 50) := by simp; omega
theorem eq0 {a : Nat} : ((a : Int) == 0) = decide (a = 0) := by
 by_cases h : a = 0 <;> simp [h]
theorem eq12 {a : Nat} : ((a : Int) == 12) = decide (a = 12) := by
 by_cases h : a = 12
 ·simp [h]
 ·simp [h]; omega
theorem weak_back {X : V} {W W1 : AW} (hok : W.ok) (hX : X.bel W.nx = true) (h : ∀ x, x < W.nx → W1.get x = W.get x) : WeakV X W1 W :=
 ⟨.inr hX, fun r o hr => by rw [h r (hok r o hr).1]; exact hr, .inr fun r o hr => (hok r o hr).1, .inr fun r o hr => (hok r o hr).2⟩
theorem choosePivot_c (hP : PE E) (W : AW) (r n a b : Nat) (d : Array Int) (hn : d.size = n) (hr : r < W.nx) (hab : a < b) (hb : b ≤ n) (hl : 8 ≤ b - a) (hsm : n < 2 ^ 48) :
  ACalls E 213 [.slr r 0 n 1, .int .i64 a, .int .i64 b] (pv W r d) fun X W' => X = .tuple [.int .i64 (choosePivot ltInt d a b).1, .int .i64 (hintN (choosePivot ltInt d a b).2)] ∧ W' = pv W r d := by
 refine ACalls.of hP Tryz.func213 ok84e (by simp) fun _ hok => ?_
 obtain ⟨l, hl'⟩ : ∃ l, l = b - a := ⟨_, rfl⟩
 obtain ⟨A, hAd⟩ : ∃ A, A = (pv W r d).alloc (.row [.int .i64 0]) := ⟨_, rfl⟩
 have hA : A.get r = some (.vec 1 (cellsI d)) := by
  rw [hAd]; simp only [AW.alloc, pv_nx]; rw [if_neg (by omega)]; exact pv_get
 have hp : r ≠ W.nx := by omega
 have hA0 : A = pq A W.nx 0 := by
  rw [hAd]
  simp only [pq, AW.alloc, AW.put, AW.mk.injEq, and_true]
  funext x
  by_cases h : x = W.nx <;> simp [h, pv_nx]
 have hback : ∀ s x, x < (pv W r d).nx → (pq A W.nx s).get x = (pv W r d).get x := by
  intro s x hx
  rw [pv_nx] at hx
  rw [hAd]
  simp only [pq, AW.alloc, AW.put, pv_nx]
  rw [if_neg (by omega), if_neg (by omega)]
 -- behind the medians
 have hn1 : a + l / 4 * 1 + 1 < n := by omega
 have hn2 : a + l / 4 * 2 + 1 < n := by omega
 have hn3 : a + l / 4 * 3 + 1 < n := by omega
 have hg8 : l ≥ 8 := by omega
 by_cases h50 : l ≥ 50
 ·have k1 := median_le (d := d) (s := 0) (n := n) (a := a + l / 4 * 1 - 1) (b := a + l / 4 * 1) (c := a + l / 4 * 1 + 1) (by omega) (by omega) (by omega)
  obtain ⟨R1, hR1⟩ : ∃ R1, R1 = medianAdjacent ltInt d (a + l / 4 * 1) 0 := ⟨_, rfl⟩
  have k2 := median_le (d := d) (s := R1.2) (n := n) (a := a + l / 4 * 2 - 1) (b := a + l / 4 * 2) (c := a + l / 4 * 2 + 1) (by omega) (by omega) (by omega)
  obtain ⟨R2, hR2⟩ : ∃ R2, R2 = medianAdjacent ltInt d (a + l / 4 * 2) R1.2 := ⟨_, rfl⟩
  have k3 := median_le (d := d) (s := R2.2) (n := n) (a := a + l / 4 * 3 - 1) (b := a + l / 4 * 3) (c := a + l / 4 * 3 + 1) (by omega) (by omega) (by omega)
  obtain ⟨R3, hR3⟩ : ∃ R3, R3 = medianAdjacent ltInt d (a + l / 4 * 3) R2.2 := ⟨_, rfl⟩
  obtain ⟨R, hR⟩ : ∃ R, R = median ltInt d R1.1 R2.1 R3.1 R3.2 := ⟨_, rfl⟩
  change (medianAdjacent ltInt d (a + l / 4 * 1) 0).1 < n ∧ (medianAdjacent ltInt d (a + l / 4 * 1) 0).2 ≤ 0 + 3 at k1
  change (medianAdjacent ltInt d (a + l / 4 * 2) R1.2).1 < n ∧ (medianAdjacent ltInt d (a + l / 4 * 2) R1.2).2 ≤ R1.2 + 3 at k2
  change (medianAdjacent ltInt d (a + l / 4 * 3) R2.2).1 < n ∧ (medianAdjacent ltInt d (a + l / 4 * 3) R2.2).2 ≤ R2.2 + 3 at k3
  rw [← hR1] at k1; rw [← hR2] at k2; rw [← hR3] at k3
  simp (maxSteps:=9^9) (disch:=omega) only [c84, BX, ↓reduceIte, nE, reduceCtorEq, wsub, ← hl', quo4, wmul1, wmulr2, wmulr3, wadd, cge8, cge50, hg8, h50, dT, pv_nx, ← hAd]
  rw [hA0]
  refine (medianAdjacent_c hP hA hp hn (by omega) (by omega) (by omega) hsm).mono ?_
  rintro X W' ⟨rfl, rfl⟩
  rw [← hR1]
  simp (maxSteps:=9^9) (disch:=omega) only [BZ, ↓reduceIte, nE, reduceCtorEq]
  refine (medianAdjacent_c hP hA hp hn (by omega) (by omega) (by omega) hsm).mono ?_
  rintro X W' ⟨rfl, rfl⟩
  rw [← hR2]
  simp (maxSteps:=9^9) (disch:=omega) only [BS, BC, ↓reduceIte, nE, reduceCtorEq]
  refine (medianAdjacent_c hP hA hp hn (by omega) (by omega) (by omega) hsm).mono ?_
  rintro X W' ⟨rfl, rfl⟩
  rw [← hR3]
  simp (maxSteps:=9^9) (disch:=omega) only [BS, BC, ↓reduceIte, nE, reduceCtorEq]
  refine (median_c hP hA hp hn k1.1 k2.1 k3.1 (by omega)).mono ?_
  rintro X W' ⟨rfl, rfl⟩
  rw [← hR]
  have hR' : R = median ltInt d (medianAdjacent ltInt d (a + l / 4 * 1) 0).1 (medianAdjacent ltInt d (a + l / 4 * 2) (medianAdjacent ltInt d (a + l / 4 * 1) 0).2).1 (medianAdjacent ltInt d (a + l / 4 * 3) (medianAdjacent ltInt d (a + l / 4 * 2) (medianAdjacent ltInt d (a + l / 4 * 1) 0).2).2).1 (medianAdjacent ltInt d (a + l / 4 * 3) (medianAdjacent ltInt d (a + l / 4 * 2) (medianAdjacent ltInt d (a + l / 4 * 1) 0).2).2).2 := by
   rw [hR, hR3, hR2, hR1]
  have hcp : choosePivot ltInt d a b = (R.1, if R.2 = 0 then .increasing else if R.2 = 12 then .decreasing else .unknown) := by
   simp only [choosePivot, ← hl', hg8, h50, ↓reduceIte, ← hR']
  by_cases h0 : R.2 = 0
  ·simp only [BS, e_seq, cond_if, ↓reduceIte, nE, ldp, eq0, h0, dT]
   exact ⟨_, rfl, _, _, .weak (weak_back hok rfl (hback _)), lr _, by simp [hcp, h0, hintN], rfl⟩
  by_cases h12 : R.2 = 12
  ·simp only [BX, ↓reduceIte, nE, reduceCtorEq, ldp, eq0, eq12, dF, h12, dT]
   exact ⟨_, rfl, _, _, .weak (weak_back hok rfl (hback _)), lr _, by simp [hcp, h12, hintN], rfl⟩
  ·simp only [BX, ↓reduceIte, nE, ldp, eq0, eq12, h0, dF, h12]
   exact ⟨_, rfl, _, _, .weak (weak_back hok rfl (hback _)), lr _, by simp [hcp, h0, h12, hintN], rfl⟩
 ·obtain ⟨R, hR⟩ : ∃ R, R = median ltInt d (a + l / 4 * 1) (a + l / 4 * 2) (a + l / 4 * 3) 0 := ⟨_, rfl⟩
  simp (maxSteps:=9^9) (disch:=omega) only [c84, BX, ↓reduceIte, nE, reduceCtorEq, wsub, ← hl', quo4, wmul1, wmulr2, wmulr3, wadd, cge8, cge50, hg8, h50, dT, dF, pv_nx, ← hAd]
  rw [hA0]
  refine (median_c hP hA hp hn (by omega) (by omega) (by omega) (by omega)).mono ?_
  rintro X W' ⟨rfl, rfl⟩
  rw [← hR]
  have hcp : choosePivot ltInt d a b = (R.1, if R.2 = 0 then .increasing else if R.2 = 12 then .decreasing else .unknown) := by
   simp only [choosePivot, ← hl', hg8, h50, ↓reduceIte, ← hR]
  by_cases h0 : R.2 = 0
  ·simp only [BS, e_seq, cond_if, ↓reduceIte, nE, ldp, eq0, h0, dT]
   exact ⟨_, rfl, _, _, .weak (weak_back hok rfl (hback _)), lr _, by simp [hcp, h0, hintN], rfl⟩
  by_cases h12 : R.2 = 12
  ·simp only [BX, ↓reduceIte, nE, reduceCtorEq, ldp, eq0, eq12, dF, h12, dT]
   exact ⟨_, rfl, _, _, .weak (weak_back hok rfl (hback _)), lr _, by simp [hcp, h12, hintN], rfl⟩
  ·simp only [BX, ↓reduceIte, nE, ldp, eq0, eq12, h0, dF, h12]
   exact ⟨_, rfl, _, _, .weak (weak_back hok rfl (hback _)), lr _, by simp [hcp, h0, h12, hintN], rfl⟩
def c88 : AC := (.r [.v 8 (.int .i64 0)] (.seq (.par (.step 0 (.m 11 0) (.step 1 (.m 12 1) (.step 2 (.m 13 0) (.step 3 (.m 14 3) (.step 4 (.m 15 0) (.step 5 (.m 16 3) (.step 8 (.m 19 0) (.step 9 (.m 20 1) (.step 6 (.b 17 (.idxp 1) 15 16) (.step 7 (.u 18 (.load false 1) 17) (.step 10 (.b 21 (.idxp 1) 19 20) (.step 11 (.u 22 (.load false 1) 21) (.step 12 (.b 23 (.idxp 1) 11 12) (.step 13 ⟨none,.store 1, [.t 23,.t 18], none⟩ (.step 14 (.b 24 (.idxp 1) 13 14) (.step 15 ⟨none,.store 1, [.t 24,.t 22], none⟩ .done))))))))))))))))) (.r [.m 25 1,.a 26 (.bin .add) 25 1,.m 27 2,.a 28 (.bin .sub) 27 1,.m 9 26,.m 10 28] (.seq (.block 0 (.loop (.block 1 (.seq (.block 2 (.loop (.seq (.seq (.par (.step 0 (.m 29 9) (.step 1 (.m 30 10) (.step 2 (.b 31 (.bin .leq) 29 30) (.step 3 (.m 32 31) (.step 4 (.M 33 0 32 true) (.step 5 (.M 34 1 32 true) (.step 8 (.M 37 0 32 true) (.step 9 (.M 38 9 32 true) (.step 6 (.B 35 (.idxp 1) 33 34 32 true) (.step 7 (.U 36 (.load false 1) 35 32 true) (.step 10 (.B 39 (.idxp 1) 37 38 32 true) (.step 11 (.U 40 (.load false 1) 39 32 true) (.step 12 (.B 41 (.call 114) 36 40 32 true) (.step 13 (.U 42 (.un .not) 41 32 true) (.step 14 (.p 43 .pick [.t 32,.t 42,.F]) .done)))))))))))))))) (.w 43 2)) (.block 3 (.reg [.m 44 9,.a 45 (.bin .add) 44 1,.m 9 45]))))) (.seq (.block 4 (.loop (.seq (.seq (.par (.step 0 (.m 46 9) (.step 1 (.m 47 10) (.step 2 (.b 48 (.bin .leq) 46 47) (.step 3 (.m 49 48) (.step 4 (.M 50 0 49 true) (.step 5 (.M 51 1 49 true) (.step 8 (.M 54 0 49 true) (.step 9 (.M 55 10 49 true) (.step 6 (.B 52 (.idxp 1) 50 51 49 true) (.step 7 (.U 53 (.load false 1) 52 49 true) (.step 10 (.B 56 (.idxp 1) 54 55 49 true) (.step 11 (.U 57 (.load false 1) 56 49 true) (.step 12 (.B 58 (.call 114) 53 57 49 true) (.step 13 (.p 59 .pick [.t 49,.t 58,.F]) .done))))))))))))))) (.w 59 4)) (.block 5 (.reg [.m 60 10,.a 61 (.bin .sub) 60 1,.m 10 61]))))) (.seq (.r [.m 62 9,.m 63 10,.b 64 (.bin .gtr) 62 63] (.cond (.t 64) (.exit 0) .skip)) (.seq (.par (.step 0 (.m 65 0) (.step 1 (.m 66 9) (.step 2 (.m 67 0) (.step 3 (.m 68 10) (.step 4 (.m 69 0) (.step 5 (.m 70 10) (.step 8 (.m 73 0) (.step 9 (.m 74 9) (.step 6 (.b 71 (.idxp 1) 69 70) (.step 7 (.u 72 (.load false 1) 71) (.step 10 (.b 75 (.idxp 1) 73 74) (.step 11 (.u 76 (.load false 1) 75) (.step 12 (.b 77 (.idxp 1) 65 66) (.step 13 ⟨none,.store 1, [.t 77,.t 72], none⟩ (.step 14 (.b 78 (.idxp 1) 67 68) (.step 15 ⟨none,.store 1, [.t 78,.t 76], none⟩ .done))))))))))))))))) (.r [.m 79 9,.a 80 (.bin .add) 79 1,.m 9 80] (.reg [.m 81 10,.a 82 (.bin .sub) 81 1,.m 10 82]))))))))) (.r [.m 83 9,.m 8 83] .ret)))))
theorem ok88e : compF Tryz.prog Tryz.f216 ⟨true, false, []⟩ = some (c88, [.tmp 8], 84) := by kernel_rfl
theorem partitionEqual_c (hP : PE E) (W : AW) (r n a b pivot : Nat) (d : Array Int) (hn : d.size = n) (hab : a < b) (hb : b ≤ n) (hpv : pivot < n) (hsm : n < 2 ^ 48) :
  ACalls E 216 [.slr r 0 n 1, .int .i64 a, .int .i64 b, .int .i64 pivot] (pv W r d) fun X W' => X = .int .i64 (partitionEqual ltInt d a b pivot).1 ∧ W' = pv W r (partitionEqual ltInt d a b pivot).2 := by
 refine ACalls.of hP Tryz.func216 ok88e (by simp) fun _ hok => ?_
 simp (disch := (try simp only [sz_set]) <;> omega) only [c88, BZ, ↓reduceIte, nE, reduceCtorEq, ix, ld, st, sw, wadd1, wsub1, e_loop]
 refine alp (fun (s : Nat × Nat × Array Int) A1 W1 => A1 0 = some (.slr r 0 n 1) ∧ A1 1 = some (.int .i64 a) ∧ A1 9 = some (.int .i64 s.1) ∧ A1 10 = some (.int .i64 s.2.1) ∧
  W1 = pv W r s.2.2 ∧ a < s.1 ∧ s.1 ≤ n ∧ s.2.1 < n ∧ s.2.2.size = n ∧ partEqLoop ltInt a s.1 s.2.1 s.2.2 = partitionEqual ltInt d a b pivot) (fun s => s.2.1 + 1 - s.1) (a + 1, b - 1, swp d a pivot)
  ⟨rfl, rfl, rfl, rfl, rfl, by simp, by simp; omega, by simp; omega, by simp [swp, hn], rfl⟩ ?_
 rintro ⟨i, j, d1⟩ A1 W1 ⟨g0, g1, g9, g10, rfl, gi, gin, gj, gs, gt⟩ _
 simp only at g9 g10 gi gin gj gs gt
 rw [partEqLoop_eq] at gt
 simp only [BS, e_seq]
 refine awp_mono _ (Q := fun e A' W' => e = .exit 2 ∧ A' 0 = some (.slr r 0 n 1) ∧ A' 1 = some (.int .i64 a) ∧ A' 9 = some (.int .i64 ((scanUp (fun x => !ltInt d1[a]! x) d1 j i : Nat) : Int)) ∧ A' 10 = some (.int .i64 (j : Nat)) ∧ W' = pv W r d1 ∧ i ≤ scanUp (fun x => !ltInt d1[a]! x) d1 j i ∧ scanUp (fun x => !ltInt d1[a]! x) d1 j i ≤ n) ?_ ?_
 rotate_left
 ·rw [e_loop]
  refine alp (fun (s : Nat) A2 W2 => A2 0 = some (.slr r 0 n 1) ∧ A2 1 = some (.int .i64 a) ∧ A2 9 = some (.int .i64 (s : Int)) ∧ A2 10 = some (.int .i64 (j : Nat)) ∧ W2 = pv W r d1 ∧ i ≤ s ∧ s ≤ n ∧ scanUp (fun x => !ltInt d1[a]! x) d1 j s = scanUp (fun x => !ltInt d1[a]! x) d1 j i) (fun s => j + 1 - s) i
   ⟨by assumption, by assumption, by assumption, by assumption, rfl, lr _, by omega, rfl⟩ ?_
  rintro s A2 W2 ⟨q0, q1, qm, qf, rfl, qi, qin, qt⟩ _
  rw [scanUp.eq_def (fun x => !ltInt d1[a]! x) d1 j s] at qt
  by_cases h1 : s ≤ j
  ·simp (maxSteps:=9^9) (disch:=omega) only [BZ, guard_if, ↓reduceIte, nE, reduceCtorEq, q0, q1, qm, qf, cle, h1, dT, ix, ld]
   refine (less_c hP _ _ _).mono ?_
   rintro X W' ⟨rfl, rfl⟩
   by_cases h2 : d1[a]! < d1[s]!
   ·rw [if_neg (by simp [ltInt, h2])] at qt
    simp (maxSteps:=9^9) (disch:=omega) only [BS, BC, cond_if, guard_if, ↓reduceIte, nE, reduceCtorEq, h2, dT, Bool.not_true, q0, q1, qm, qf]
    exact ⟨tt, tt, tt, by rw [← qt], tt, tt, by rw [← qt]; exact qi, by rw [← qt]; exact qin⟩
   ·simp (maxSteps:=9^9) (disch:=omega) only [BS, cond_if, guard_if, ↓reduceIte, nE, reduceCtorEq, h2, dF, Bool.not_false, q0, q1, qm, qf, wadd1]
    exact ⟨s + 1, ⟨tt, tt, rfl, tt, tt, by omega, by omega, by rw [← qt, if_pos (by simp [h1, ltInt, h2])]⟩, by omega, lr _⟩
  ·rw [if_neg (by simp [h1])] at qt
   simp (maxSteps:=9^9) (disch:=omega) only [BX, guard_if, ↓reduceIte, nE, reduceCtorEq, q0, q1, qm, qf, cle, h1, dF]
   exact ⟨tt, tt, tt, by rw [← qt], tt, tt, by rw [← qt]; exact qi, by rw [← qt]; exact qin⟩
 rintro e A2 W2 ⟨rfl, u0, u1, u9, u10, rfl, ui, uin⟩
 simp only [BS, e_seq, ↓reduceIte]
 obtain ⟨i2, hi2⟩ : ∃ i2, i2 = scanUp (fun x => !ltInt d1[a]! x) d1 j i := ⟨_, rfl⟩
 rw [← hi2] at u9 ui uin gt
 refine awp_mono _ (Q := fun e A' W' => e = .exit 4 ∧ A' 0 = some (.slr r 0 n 1) ∧ A' 1 = some (.int .i64 a) ∧ A' 10 = some (.int .i64 ((scanDown (fun x => ltInt d1[a]! x) d1 i2 j : Nat) : Int)) ∧ A' 9 = some (.int .i64 (i2 : Nat)) ∧ W' = pv W r d1 ∧ scanDown (fun x => ltInt d1[a]! x) d1 i2 j ≤ j) ?_ ?_
 rotate_left
 ·rw [e_loop]
  refine alp (fun (s : Nat) A2 W2 => A2 0 = some (.slr r 0 n 1) ∧ A2 1 = some (.int .i64 a) ∧ A2 10 = some (.int .i64 (s : Int)) ∧ A2 9 = some (.int .i64 (i2 : Nat)) ∧ W2 = pv W r d1 ∧ s ≤ j ∧ scanDown (fun x => ltInt d1[a]! x) d1 i2 s = scanDown (fun x => ltInt d1[a]! x) d1 i2 j) (fun s => s) j
   ⟨by assumption, by assumption, by assumption, by assumption, rfl, lr _, rfl⟩ ?_
  rintro s A2 W2 ⟨q0, q1, qm, qf, rfl, qi, qt⟩ _
  by_cases h1 : i2 ≤ s
  ·obtain ⟨s, rfl⟩ : ∃ s', s = s' + 1 := ⟨s - 1, by omega⟩
   rw [scanDown] at qt
   simp (maxSteps:=9^9) (disch:=omega) only [BZ, guard_if, ↓reduceIte, nE, reduceCtorEq, q0, q1, qm, qf, cle, h1, dT, ix, ld]
   refine (less_c hP _ _ _).mono ?_
   rintro X W' ⟨rfl, rfl⟩
   by_cases h2 : d1[a]! < d1[s + 1]!
   ·simp (maxSteps:=9^9) (disch:=omega) only [BS, cond_if, ↓reduceIte, nE, reduceCtorEq, h2, dT, q0, q1, qm, qf, wsub1, Nat.add_sub_cancel]
    exact ⟨s, ⟨tt, tt, rfl, tt, tt, by omega, by rw [← qt, if_pos (by simp [h1, ltInt, h2])]⟩, by omega, lr _⟩
   ·rw [if_neg (by simp [ltInt, h2])] at qt
    simp (maxSteps:=9^9) (disch:=omega) only [BS, BC, cond_if, ↓reduceIte, nE, reduceCtorEq, h2, dF, q0, q1, qm, qf]
    exact ⟨tt, tt, tt, by rw [← qt], tt, tt, by rw [← qt]; exact qi⟩
  ·replace qt : s = scanDown (fun x => ltInt d1[a]! x) d1 i2 j := by
    rw [← qt]; cases s with
    | zero => rfl
    | succ s => rw [scanDown, if_neg (by simp [h1])]
   simp (maxSteps:=9^9) (disch:=omega) only [BX, guard_if, ↓reduceIte, nE, reduceCtorEq, q0, q1, qm, qf, cle, h1, dF]
   exact ⟨tt, tt, tt, by rw [← qt], tt, tt, by rw [← qt]; exact qi⟩
 rintro e A2 W2 ⟨rfl, v0, v1, v10, v9, rfl, vj⟩
 obtain ⟨j2, hj2⟩ : ∃ j2, j2 = scanDown (fun x => ltInt d1[a]! x) d1 i2 j := ⟨_, rfl⟩
 rw [← hj2] at v10 vj gt
 by_cases h3 : i2 > j2
 ·rw [if_pos h3] at gt
  simp (maxSteps:=9^9) (disch:=omega) only [BX, ↓reduceIte, nE, reduceCtorEq, v9, v10, cgt, h3, dT]
  exact ⟨_, rfl, _, _, .weak weak_id, lr _, by rw [← gt], by rw [← gt]⟩
 ·rw [if_neg h3] at gt
  simp (disch := (try simp only [sz_set]) <;> omega) only [BX, ↓reduceIte, nE, reduceCtorEq, v0, v1, v9, v10, cgt, h3, dF, ix, ld, st, sw, wadd1, wsub1]
  exact ⟨(i2 + 1, j2 - 1, swp d1 i2 j2), ⟨tt, tt, rfl, rfl, rfl, by simp; omega, by simp; omega, by simp; omega, by simp [swp, gs], gt⟩, by simp; omega, lr _⟩
def c89 : AC := (.r [.v 8 (.int .i64 0),.v 9 (.bool false)] (.seq (.par (.step 0 (.m 12 0) (.step 1 (.m 13 1) (.step 2 (.m 14 0) (.step 3 (.m 15 3) (.step 4 (.m 16 0) (.step 5 (.m 17 3) (.step 8 (.m 20 0) (.step 9 (.m 21 1) (.step 6 (.b 18 (.idxp 1) 16 17) (.step 7 (.u 19 (.load false 1) 18) (.step 10 (.b 22 (.idxp 1) 20 21) (.step 11 (.u 23 (.load false 1) 22) (.step 12 (.b 24 (.idxp 1) 12 13) (.step 13 ⟨none,.store 1, [.t 24,.t 19], none⟩ (.step 14 (.b 25 (.idxp 1) 14 15) (.step 15 ⟨none,.store 1, [.t 25,.t 23], none⟩ .done))))))))))))))))) (.r [.m 26 1,.a 27 (.bin .add) 26 1,.m 28 2,.a 29 (.bin .sub) 28 1,.m 10 27,.m 11 29] (.seq (.block 0 (.loop (.seq (.seq (.par (.step 0 (.m 30 10) (.step 1 (.m 31 11) (.step 2 (.b 32 (.bin .leq) 30 31) (.step 3 (.m 33 32) (.step 4 (.M 34 0 33 true) (.step 5 (.M 35 10 33 true) (.step 8 (.M 38 0 33 true) (.step 9 (.M 39 1 33 true) (.step 6 (.B 36 (.idxp 1) 34 35 33 true) (.step 7 (.U 37 (.load false 1) 36 33 true) (.step 10 (.B 40 (.idxp 1) 38 39 33 true) (.step 11 (.U 41 (.load false 1) 40 33 true) (.step 12 (.B 42 (.call 114) 37 41 33 true) (.step 13 (.p 43 .pick [.t 33,.t 42,.F]) .done))))))))))))))) (.w 43 0)) (.block 1 (.reg [.m 44 10,.a 45 (.bin .add) 44 1,.m 10 45]))))) (.seq (.block 2 (.loop (.seq (.seq (.par (.step 0 (.m 46 10) (.step 1 (.m 47 11) (.step 2 (.b 48 (.bin .leq) 46 47) (.step 3 (.m 49 48) (.step 4 (.M 50 0 49 true) (.step 5 (.M 51 11 49 true) (.step 8 (.M 54 0 49 true) (.step 9 (.M 55 1 49 true) (.step 6 (.B 52 (.idxp 1) 50 51 49 true) (.step 7 (.U 53 (.load false 1) 52 49 true) (.step 10 (.B 56 (.idxp 1) 54 55 49 true) (.step 11 (.U 57 (.load false 1) 56 49 true) (.step 12 (.B 58 (.call 114) 53 57 49 true) (.step 13 (.U 59 (.un .not) 58 49 true) (.step 14 (.p 60 .pick [.t 49,.t 59,.F]) .done)))))))))))))))) (.w 60 2)) (.block 3 (.reg [.m 61 11,.a 62 (.bin .sub) 61 1,.m 11 62]))))) (.seq (.r [.m 63 10,.m 64 11,.b 65 (.bin .gtr) 63 64] (.cond (.t 65) (.seq (.par (.step 0 (.m 66 0) (.step 1 (.m 67 11) (.step 2 (.m 68 0) (.step 3 (.m 69 1) (.step 4 (.m 70 0) (.step 5 (.m 71 1) (.step 8 (.m 74 0) (.step 9 (.m 75 11) (.step 6 (.b 72 (.idxp 1) 70 71) (.step 7 (.u 73 (.load false 1) 72) (.step 10 (.b 76 (.idxp 1) 74 75) (.step 11 (.u 77 (.load false 1) 76) (.step 12 (.b 78 (.idxp 1) 66 67) (.step 13 ⟨none,.store 1, [.t 78,.t 73], none⟩ (.step 14 (.b 79 (.idxp 1) 68 69) (.step 15 ⟨none,.store 1, [.t 79,.t 77], none⟩ .done))))))))))))))))) (.r [.m 80 11,.m 8 80,.v 9 (.bool true)] .ret)) .skip)) (.seq (.par (.step 0 (.m 81 0) (.step 1 (.m 82 10) (.step 2 (.m 83 0) (.step 3 (.m 84 11) (.step 4 (.m 85 0) (.step 5 (.m 86 11) (.step 8 (.m 89 0) (.step 9 (.m 90 10) (.step 6 (.b 87 (.idxp 1) 85 86) (.step 7 (.u 88 (.load false 1) 87) (.step 10 (.b 91 (.idxp 1) 89 90) (.step 11 (.u 92 (.load false 1) 91) (.step 12 (.b 93 (.idxp 1) 81 82) (.step 13 ⟨none,.store 1, [.t 93,.t 88], none⟩ (.step 14 (.b 94 (.idxp 1) 83 84) (.step 15 ⟨none,.store 1, [.t 94,.t 92], none⟩ .done))))))))))))))))) (.r [.m 95 10,.a 96 (.bin .add) 95 1,.m 10 96] (.r [.m 97 11,.a 98 (.bin .sub) 97 1,.m 11 98] (.seq (.block 4 (.loop (.block 5 (.seq (.block 6 (.loop (.seq (.seq (.par (.step 0 (.m 99 10) (.step 1 (.m 100 11) (.step 2 (.b 101 (.bin .leq) 99 100) (.step 3 (.m 102 101) (.step 4 (.M 103 0 102 true) (.step 5 (.M 104 10 102 true) (.step 8 (.M 107 0 102 true) (.step 9 (.M 108 1 102 true) (.step 6 (.B 105 (.idxp 1) 103 104 102 true) (.step 7 (.U 106 (.load false 1) 105 102 true) (.step 10 (.B 109 (.idxp 1) 107 108 102 true) (.step 11 (.U 110 (.load false 1) 109 102 true) (.step 12 (.B 111 (.call 114) 106 110 102 true) (.step 13 (.p 112 .pick [.t 102,.t 111,.F]) .done))))))))))))))) (.w 112 6)) (.block 7 (.reg [.m 113 10,.a 114 (.bin .add) 113 1,.m 10 114]))))) (.seq (.block 8 (.loop (.seq (.seq (.par (.step 0 (.m 115 10) (.step 1 (.m 116 11) (.step 2 (.b 117 (.bin .leq) 115 116) (.step 3 (.m 118 117) (.step 4 (.M 119 0 118 true) (.step 5 (.M 120 11 118 true) (.step 8 (.M 123 0 118 true) (.step 9 (.M 124 1 118 true) (.step 6 (.B 121 (.idxp 1) 119 120 118 true) (.step 7 (.U 122 (.load false 1) 121 118 true) (.step 10 (.B 125 (.idxp 1) 123 124 118 true) (.step 11 (.U 126 (.load false 1) 125 118 true) (.step 12 (.B 127 (.call 114) 122 126 118 true) (.step 13 (.U 128 (.un .not) 127 118 true) (.step 14 (.p 129 .pick [.t 118,.t 128,.F]) .done)))))))))))))))) (.w 129 8)) (.block 9 (.reg [.m 130 11,.a 131 (.bin .sub) 130 1,.m 11 131]))))) (.seq (.r [.m 132 10,.m 133 11,.b 134 (.bin .gtr) 132 133] (.cond (.t 134) (.exit 4) .skip)) (.seq (.par (.step 0 (.m 135 0) (.step 1 (.m 136 10) (.step 2 (.m 137 0) (.step 3 (.m 138 11) (.step 4 (.m 139 0) (.step 5 (.m 140 11) (.step 8 (.m 143 0) (.step 9 (.m 144 10) (.step 6 (.b 141 (.idxp 1) 139 140) (.step 7 (.u 142 (.load false 1) 141) (.step 10 (.b 145 (.idxp 1) 143 144) (.step 11 (.u 146 (.load false 1) 145) (.step 12 (.b 147 (.idxp 1) 135 136) (.step 13 ⟨none,.store 1, [.t 147,.t 142], none⟩ (.step 14 (.b 148 (.idxp 1) 137 138) (.step 15 ⟨none,.store 1, [.t 148,.t 146], none⟩ .done))))))))))))))))) (.r [.m 149 10,.a 150 (.bin .add) 149 1,.m 10 150] (.reg [.m 151 11,.a 152 (.bin .sub) 151 1,.m 11 152]))))))))) (.seq (.par (.step 0 (.m 153 0) (.step 1 (.m 154 11) (.step 2 (.m 155 0) (.step 3 (.m 156 1) (.step 4 (.m 157 0) (.step 5 (.m 158 1) (.step 8 (.m 161 0) (.step 9 (.m 162 11) (.step 6 (.b 159 (.idxp 1) 157 158) (.step 7 (.u 160 (.load false 1) 159) (.step 10 (.b 163 (.idxp 1) 161 162) (.step 11 (.u 164 (.load false 1) 163) (.step 12 (.b 165 (.idxp 1) 153 154) (.step 13 ⟨none,.store 1, [.t 165,.t 160], none⟩ (.step 14 (.b 166 (.idxp 1) 155 156) (.step 15 ⟨none,.store 1, [.t 166,.t 164], none⟩ .done))))))))))))))))) (.r [.m 167 11,.m 8 167,.v 9 (.bool false)] .ret))))))))))))
theorem ok89e : compF Tryz.prog Tryz.f217 ⟨true, false, []⟩ = some (c89, [.tmp 8, .tmp 9], 168) := by kernel_rfl
theorem partition_c (hP : PE E) (W : AW) (r n a b pivot : Nat) (d : Array Int) (hn : d.size = n) (hab : a < b) (hb : b ≤ n) (hpv : pivot < n) (hsm : n < 2 ^ 48) :
  ACalls E 217 [.slr r 0 n 1, .int .i64 a, .int .i64 b, .int .i64 pivot] (pv W r d) fun X W' => X = .tuple [.int .i64 (partition ltInt d a b pivot).1, .bool (partition ltInt d a b pivot).2.1] ∧ W' = pv W r (partition ltInt d a b pivot).2.2 := by
 refine ACalls.of hP Tryz.func217 ok89e (by simp) fun _ hok => ?_
 have gt : partition ltInt d a b pivot = (let d := swp d a pivot
  let i := scanUp (fun x => ltInt x d[a]!) d (b - 1) (a + 1)
  let j := scanDown (fun x => !ltInt x d[a]!) d i (b - 1)
  if i > j then (j, true, swp d j a) else
   let r := partLoop ltInt a (i + 1) (j - 1) (swp d i j)
   (r.1, false, swp r.2 r.1 a)) := rfl
 obtain ⟨d0, hd0⟩ : ∃ d0, d0 = swp d a pivot := ⟨_, rfl⟩
 have gs : d0.size = n := by rw [hd0]; simp [swp, hn]
 obtain ⟨i0, hi0⟩ : ∃ i0, i0 = a + 1 := ⟨_, rfl⟩
 obtain ⟨j0, hj0⟩ : ∃ j0, j0 = b - 1 := ⟨_, rfl⟩
 simp only [← hd0, ← hi0, ← hj0] at gt
 simp (disch := (try simp only [sz_set]) <;> omega) only [c89, BZ, ↓reduceIte, nE, reduceCtorEq, ix, ld, st, sw, wadd1, wsub1, ← hd0, ← hi0, ← hj0]
 refine awp_mono _ (Q := fun e A' W' => e = .exit 0 ∧ A' 0 = some (.slr r 0 n 1) ∧ A' 1 = some (.int .i64 a) ∧ A' 10 = some (.int .i64 ((scanUp (fun x => ltInt x d0[a]!) d0 j0 i0 : Nat) : Int)) ∧ A' 11 = some (.int .i64 (j0 : Nat)) ∧ W' = pv W r d0 ∧ i0 ≤ scanUp (fun x => ltInt x d0[a]!) d0 j0 i0 ∧ scanUp (fun x => ltInt x d0[a]!) d0 j0 i0 ≤ n) ?_ ?_
 rotate_left
 ·rw [e_loop]
  refine alp (fun (s : Nat) A2 W2 => A2 0 = some (.slr r 0 n 1) ∧ A2 1 = some (.int .i64 a) ∧ A2 10 = some (.int .i64 (s : Int)) ∧ A2 11 = some (.int .i64 (j0 : Nat)) ∧ W2 = pv W r d0 ∧ i0 ≤ s ∧ s ≤ n ∧ scanUp (fun x => ltInt x d0[a]!) d0 j0 s = scanUp (fun x => ltInt x d0[a]!) d0 j0 i0) (fun s => j0 + 1 - s) i0
   ⟨by rfl, by rfl, by rfl, by rfl, rfl, lr _, by omega, rfl⟩ ?_
  rintro s A2 W2 ⟨q0, q1, qm, qf, rfl, qi, qin, qt⟩ _
  rw [scanUp.eq_def (fun x => ltInt x d0[a]!) d0 j0 s] at qt
  by_cases h1 : s ≤ j0
  ·simp (maxSteps:=9^9) (disch:=omega) only [BZ, guard_if, ↓reduceIte, nE, reduceCtorEq, q0, q1, qm, qf, cle, h1, dT, ix, ld]
   refine (less_c hP _ _ _).mono ?_
   rintro X W' ⟨rfl, rfl⟩
   by_cases h2 : d0[s]! < d0[a]!
   ·simp (maxSteps:=9^9) (disch:=omega) only [BS, cond_if, ↓reduceIte, nE, reduceCtorEq, h2, dT, q0, q1, qm, qf, wadd1]
    exact ⟨s + 1, ⟨tt, tt, rfl, tt, tt, by omega, by omega, by rw [← qt, if_pos (by simp [h1, ltInt, h2])]⟩, by omega, lr _⟩
   ·rw [if_neg (by simp [ltInt, h2])] at qt
    simp (maxSteps:=9^9) (disch:=omega) only [BS, BC, cond_if, ↓reduceIte, nE, reduceCtorEq, h2, dF, q0, q1, qm, qf]
    exact ⟨tt, tt, tt, by rw [← qt], tt, tt, by rw [← qt]; exact qi, by rw [← qt]; exact qin⟩
  ·rw [if_neg (by simp [h1])] at qt
   simp (maxSteps:=9^9) (disch:=omega) only [BX, guard_if, ↓reduceIte, nE, reduceCtorEq, q0, q1, qm, qf, cle, h1, dF]
   exact ⟨tt, tt, tt, by rw [← qt], tt, tt, by rw [← qt]; exact qi, by rw [← qt]; exact qin⟩
 rintro e A2 W2 ⟨rfl, u0, u1, u10, u11, rfl, ui, un⟩
 simp only [BS, e_seq, ↓reduceIte]
 obtain ⟨i02, hi2⟩ : ∃ i02, i02 = scanUp (fun x => ltInt x d0[a]!) d0 j0 i0 := ⟨_, rfl⟩
 rw [← hi2] at u10 ui un gt
 refine awp_mono _ (Q := fun e A' W' => e = .exit 2 ∧ A' 0 = some (.slr r 0 n 1) ∧ A' 1 = some (.int .i64 a) ∧ A' 11 = some (.int .i64 ((scanDown (fun x => !ltInt x d0[a]!) d0 i02 j0 : Nat) : Int)) ∧ A' 10 = some (.int .i64 (i02 : Nat)) ∧ W' = pv W r d0 ∧ scanDown (fun x => !ltInt x d0[a]!) d0 i02 j0 ≤ j0) ?_ ?_
 rotate_left
 ·rw [e_loop]
  refine alp (fun (s : Nat) A2 W2 => A2 0 = some (.slr r 0 n 1) ∧ A2 1 = some (.int .i64 a) ∧ A2 11 = some (.int .i64 (s : Int)) ∧ A2 10 = some (.int .i64 (i02 : Nat)) ∧ W2 = pv W r d0 ∧ s ≤ j0 ∧ scanDown (fun x => !ltInt x d0[a]!) d0 i02 s = scanDown (fun x => !ltInt x d0[a]!) d0 i02 j0) (fun s => s) j0
   ⟨by assumption, by assumption, by assumption, by assumption, rfl, lr _, rfl⟩ ?_
  rintro s A2 W2 ⟨q0, q1, qm, qf, rfl, qi, qt⟩ _
  by_cases h1 : i02 ≤ s
  ·obtain ⟨s, rfl⟩ : ∃ s', s = s' + 1 := ⟨s - 1, by omega⟩
   rw [scanDown] at qt
   simp (maxSteps:=9^9) (disch:=omega) only [BZ, guard_if, ↓reduceIte, nE, reduceCtorEq, q0, q1, qm, qf, cle, h1, dT, ix, ld]
   refine (less_c hP _ _ _).mono ?_
   rintro X W' ⟨rfl, rfl⟩
   by_cases h2 : d0[s + 1]! < d0[a]!
   ·rw [if_neg (by simp [ltInt, h2])] at qt
    simp (maxSteps:=9^9) (disch:=omega) only [BS, BC, cond_if, guard_if, ↓reduceIte, nE, reduceCtorEq, h2, dT, Bool.not_true, q0, q1, qm, qf]
    exact ⟨tt, tt, tt, by rw [← qt], tt, tt, by rw [← qt]; exact qi⟩
   ·simp (maxSteps:=9^9) (disch:=omega) only [BS, cond_if, guard_if, ↓reduceIte, nE, reduceCtorEq, h2, dF, Bool.not_false, q0, q1, qm, qf, wsub1, Nat.add_sub_cancel]
    exact ⟨s, ⟨tt, tt, rfl, tt, tt, by omega, by rw [← qt, if_pos (by simp [h1, ltInt, h2])]⟩, by omega, lr _⟩
  ·replace qt : s = scanDown (fun x => !ltInt x d0[a]!) d0 i02 j0 := by
    rw [← qt]; cases s with
    | zero => rfl
    | succ s => rw [scanDown, if_neg (by simp [h1])]
   simp (maxSteps:=9^9) (disch:=omega) only [BX, guard_if, ↓reduceIte, nE, reduceCtorEq, q0, q1, qm, qf, cle, h1, dF]
   exact ⟨tt, tt, tt, by rw [← qt], tt, tt, by rw [← qt]; exact qi⟩
 rintro e A2 W2 ⟨rfl, v0, v1, v11, v10, rfl, vj⟩
 obtain ⟨j2, hj2⟩ : ∃ j2, j2 = scanDown (fun x => !ltInt x d0[a]!) d0 i02 j0 := ⟨_, rfl⟩
 rw [← hj2] at v11 vj gt
 by_cases h3 : i02 > j2
 ·rw [if_pos h3] at gt
  simp (disch := (try simp only [sz_set]) <;> omega) only [BS, e_seq, cond_if, ↓reduceIte, nE, reduceCtorEq, v0, v1, v10, v11, cgt, h3, dT, ix, ld, st, sw]
  exact ⟨_, rfl, _, _, .weak weak_id, lr _, by rw [gt], by rw [gt]⟩
 ·rw [if_neg h3] at gt
  simp (disch := (try simp only [sz_set]) <;> omega) only [BX, ↓reduceIte, nE, reduceCtorEq, v0, v10, v11, cgt, h3, dF, ix, ld, st, sw, wadd1, wsub1]
  rw [e_loop]
  refine alp (fun (s : Nat × Nat × Array Int) A1 W1 => A1 0 = some (.slr r 0 n 1) ∧ A1 1 = some (.int .i64 a) ∧ A1 10 = some (.int .i64 s.1) ∧ A1 11 = some (.int .i64 s.2.1) ∧
   W1 = pv W r s.2.2 ∧ a < s.1 ∧ s.1 ≤ n ∧ s.2.1 < n ∧ s.2.2.size = n ∧ partLoop ltInt a s.1 s.2.1 s.2.2 = partLoop ltInt a (i02 + 1) (j2 - 1) (swp d0 i02 j2)) (fun s => s.2.1 + 1 - s.1) (i02 + 1, j2 - 1, swp d0 i02 j2)
   ⟨by simp only [BS, ↓reduceIte, reduceCtorEq, v0], by simp only [BS, ↓reduceIte, nE, v1], rfl, rfl, rfl, by simp; omega, by simp; omega, by simp; omega, by simp [swp, gs], rfl⟩ ?_
  rintro ⟨i, j, d1⟩ A1 W1 ⟨g0, g1, g10, g11, rfl, gi, gin, gj, gs1, gt1⟩ _
  simp only at g10 g11 gi gin gj gs1 gt1
  rw [partLoop_eq] at gt1
  simp only [BS, e_seq]
  refine awp_mono _ (Q := fun e A' W' => e = .exit 6 ∧ A' 0 = some (.slr r 0 n 1) ∧ A' 1 = some (.int .i64 a) ∧ A' 10 = some (.int .i64 ((scanUp (fun x => ltInt x d1[a]!) d1 j i : Nat) : Int)) ∧ A' 11 = some (.int .i64 (j : Nat)) ∧ W' = pv W r d1 ∧ i ≤ scanUp (fun x => ltInt x d1[a]!) d1 j i ∧ scanUp (fun x => ltInt x d1[a]!) d1 j i ≤ n) ?_ ?_
  rotate_left
  ·rw [e_loop]
   refine alp (fun (s : Nat) A2 W2 => A2 0 = some (.slr r 0 n 1) ∧ A2 1 = some (.int .i64 a) ∧ A2 10 = some (.int .i64 (s : Int)) ∧ A2 11 = some (.int .i64 (j : Nat)) ∧ W2 = pv W r d1 ∧ i ≤ s ∧ s ≤ n ∧ scanUp (fun x => ltInt x d1[a]!) d1 j s = scanUp (fun x => ltInt x d1[a]!) d1 j i) (fun s => j + 1 - s) i
    ⟨by assumption, by assumption, by assumption, by assumption, rfl, lr _, by omega, rfl⟩ ?_
   rintro s A2 W2 ⟨q0, q1, qm, qf, rfl, qi, qin, qt⟩ _
   rw [scanUp.eq_def (fun x => ltInt x d1[a]!) d1 j s] at qt
   by_cases h1 : s ≤ j
   ·simp (maxSteps:=9^9) (disch:=omega) only [BZ, guard_if, ↓reduceIte, nE, reduceCtorEq, q0, q1, qm, qf, cle, h1, dT, ix, ld]
    refine (less_c hP _ _ _).mono ?_
    rintro X W' ⟨rfl, rfl⟩
    by_cases h2 : d1[s]! < d1[a]!
    ·simp (maxSteps:=9^9) (disch:=omega) only [BS, cond_if, ↓reduceIte, nE, reduceCtorEq, h2, dT, q0, q1, qm, qf, wadd1]
     exact ⟨s + 1, ⟨tt, tt, rfl, tt, tt, by omega, by omega, by rw [← qt, if_pos (by simp [h1, ltInt, h2])]⟩, by omega, lr _⟩
    ·rw [if_neg (by simp [ltInt, h2])] at qt
     simp (maxSteps:=9^9) (disch:=omega) only [BS, BC, cond_if, ↓reduceIte, nE, reduceCtorEq, h2, dF, q0, q1, qm, qf]
     exact ⟨tt, tt, tt, by rw [← qt], tt, tt, by rw [← qt]; exact qi, by rw [← qt]; exact qin⟩
   ·rw [if_neg (by simp [h1])] at qt
    simp (maxSteps:=9^9) (disch:=omega) only [BX, guard_if, ↓reduceIte, nE, reduceCtorEq, q0, q1, qm, qf, cle, h1, dF]
    exact ⟨tt, tt, tt, by rw [← qt], tt, tt, by rw [← qt]; exact qi, by rw [← qt]; exact qin⟩
  rintro e A2 W2 ⟨rfl, x0, x1, x10, x11, rfl, xi, xn⟩
  simp only [BS, e_seq, ↓reduceIte]
  obtain ⟨i2, hi2⟩ : ∃ i2, i2 = scanUp (fun x => ltInt x d1[a]!) d1 j i := ⟨_, rfl⟩
  rw [← hi2] at x10 xi xn gt1
  refine awp_mono _ (Q := fun e A' W' => e = .exit 8 ∧ A' 0 = some (.slr r 0 n 1) ∧ A' 1 = some (.int .i64 a) ∧ A' 11 = some (.int .i64 ((scanDown (fun x => !ltInt x d1[a]!) d1 i2 j : Nat) : Int)) ∧ A' 10 = some (.int .i64 (i2 : Nat)) ∧ W' = pv W r d1 ∧ scanDown (fun x => !ltInt x d1[a]!) d1 i2 j ≤ j) ?_ ?_
  rotate_left
  ·rw [e_loop]
   refine alp (fun (s : Nat) A2 W2 => A2 0 = some (.slr r 0 n 1) ∧ A2 1 = some (.int .i64 a) ∧ A2 11 = some (.int .i64 (s : Int)) ∧ A2 10 = some (.int .i64 (i2 : Nat)) ∧ W2 = pv W r d1 ∧ s ≤ j ∧ scanDown (fun x => !ltInt x d1[a]!) d1 i2 s = scanDown (fun x => !ltInt x d1[a]!) d1 i2 j) (fun s => s) j
    ⟨by assumption, by assumption, by assumption, by assumption, rfl, lr _, rfl⟩ ?_
   rintro s A2 W2 ⟨q0, q1, qm, qf, rfl, qi, qt⟩ _
   by_cases h1 : i2 ≤ s
   ·obtain ⟨s, rfl⟩ : ∃ s', s = s' + 1 := ⟨s - 1, by omega⟩
    rw [scanDown] at qt
    simp (maxSteps:=9^9) (disch:=omega) only [BZ, guard_if, ↓reduceIte, nE, reduceCtorEq, q0, q1, qm, qf, cle, h1, dT, ix, ld]
    refine (less_c hP _ _ _).mono ?_
    rintro X W' ⟨rfl, rfl⟩
    by_cases h2 : d1[s + 1]! < d1[a]!
    ·rw [if_neg (by simp [ltInt, h2])] at qt
     simp (maxSteps:=9^9) (disch:=omega) only [BS, BC, cond_if, guard_if, ↓reduceIte, nE, reduceCtorEq, h2, dT, Bool.not_true, q0, q1, qm, qf]
     exact ⟨tt, tt, tt, by rw [← qt], tt, tt, by rw [← qt]; exact qi⟩
    ·simp (maxSteps:=9^9) (disch:=omega) only [BS, cond_if, guard_if, ↓reduceIte, nE, reduceCtorEq, h2, dF, Bool.not_false, q0, q1, qm, qf, wsub1, Nat.add_sub_cancel]
     exact ⟨s, ⟨tt, tt, rfl, tt, tt, by omega, by rw [← qt, if_pos (by simp [h1, ltInt, h2])]⟩, by omega, lr _⟩
   ·replace qt : s = scanDown (fun x => !ltInt x d1[a]!) d1 i2 j := by
     rw [← qt]; cases s with
     | zero => rfl
     | succ s => rw [scanDown, if_neg (by simp [h1])]
    simp (maxSteps:=9^9) (disch:=omega) only [BX, guard_if, ↓reduceIte, nE, reduceCtorEq, q0, q1, qm, qf, cle, h1, dF]
    exact ⟨tt, tt, tt, by rw [← qt], tt, tt, by rw [← qt]; exact qi⟩
  rintro e A2 W2 ⟨rfl, y0, y1, y11, y10, rfl, yj⟩
  obtain ⟨j3, hj3⟩ : ∃ j3, j3 = scanDown (fun x => !ltInt x d1[a]!) d1 i2 j := ⟨_, rfl⟩
  rw [← hj3] at y11 yj gt1
  by_cases h3 : i2 > j3
  ·rw [if_pos h3] at gt1
   rw [← gt1] at gt
   simp (disch := (try simp only [sz_set]) <;> omega) only [BS, e_seq, cond_if, ↓reduceIte, nE, reduceCtorEq, y0, y1, y10, y11, cgt, h3, dT, ix, ld, st, sw]
   exact ⟨_, rfl, _, _, .weak weak_id, lr _, by rw [gt], by rw [gt]⟩
  ·rw [if_neg h3] at gt1
   simp (disch := (try simp only [sz_set]) <;> omega) only [BX, ↓reduceIte, nE, reduceCtorEq, y0, y1, y10, y11, cgt, h3, dF, ix, ld, st, sw, wadd1, wsub1]
   exact ⟨(i2 + 1, j3 - 1, swp d1 i2 j3), ⟨tt, tt, rfl, rfl, rfl, by simp; omega, by simp; omega, by simp; omega, by simp [swp, gs1], gt1⟩, by simp; omega, lr _⟩
def c81 : AC := (.r [.m 8 1,.a 9 (.bin .add) 8 1,.m 6 9] (.block 0 (.loop (.seq (.r [.m 10 6,.m 11 2,.b 12 (.bin .lss) 10 11] (.w 12 0)) (.seq (.block 1 (.r [.m 15 6,.m 7 15] (.block 2 (.loop (.seq (.seq (.par (.step 0 (.m 16 7) (.step 1 (.m 17 1) (.step 2 (.b 18 (.bin .gtr) 16 17) (.step 3 (.m 19 18) (.step 4 (.M 20 0 19 true) (.step 5 (.M 21 7 19 true) (.step 8 (.M 24 0 19 true) (.step 9 (.M 25 7 19 true) (.step 10 (.P 26 (.bin .sub) [.t 25,.i 1] 19 true) (.step 6 (.B 22 (.idxp 1) 20 21 19 true) (.step 7 (.U 23 (.load false 1) 22 19 true) (.step 11 (.B 27 (.idxp 1) 24 26 19 true) (.step 12 (.U 28 (.load false 1) 27 19 true) (.step 13 (.B 29 (.call 114) 23 28 19 true) (.step 14 (.p 30 .pick [.t 19,.t 29,.F]) .done)))))))))))))))) (.w 30 2)) (.seq (.block 3 (.par (.step 0 (.m 33 0) (.step 1 (.m 34 7) (.step 2 (.m 35 0) (.step 3 (.m 36 7) (.step 4 (.a 37 (.bin .sub) 36 1) (.step 5 (.m 38 0) (.step 6 (.m 39 7) (.step 7 (.a 40 (.bin .sub) 39 1) (.step 10 (.m 43 0) (.step 11 (.m 44 7) (.step 8 (.b 41 (.idxp 1) 38 40) (.step 9 (.u 42 (.load false 1) 41) (.step 12 (.b 45 (.idxp 1) 43 44) (.step 13 (.u 46 (.load false 1) 45) (.step 14 (.b 47 (.idxp 1) 33 34) (.step 15 ⟨none,.store 1, [.t 47,.t 42], none⟩ (.step 16 (.b 48 (.idxp 1) 35 37) (.step 17 ⟨none,.store 1, [.t 48,.t 46], none⟩ .done)))))))))))))))))))) (.reg [.m 31 7,.a 32 (.bin .sub) 31 1,.m 7 32]))))))) (.reg [.m 13 6,.a 14 (.bin .add) 13 1,.m 6 14]))))))
theorem ok81e : compF Tryz.prog Tryz.f210 ⟨true, false, []⟩ = some (c81, [], 49) := by kernel_rfl
theorem insInner_size (lt : Int → Int → Bool) (a : Nat) : ∀ (j : Nat) (d : Array Int), (insInner lt a j d).size = d.size
 | 0, d => rfl
 | j + 1, d => by
  rw [insInner]
  split
  ·rw [insInner_size]; simp [swp]
  ·rfl
theorem insertion_c (hP : PE E) (W : AW) (r n a b : Nat) (d : Array Int) (hn : d.size = n) (hb : b ≤ n) (ha : a ≤ n) (hsm : n < 2 ^ 48) :
  ACalls E 210 [.slr r 0 n 1, .int .i64 a, .int .i64 b] (pv W r d) fun X W' => X = .tuple [] ∧ W' = pv W r (insertionSort ltInt d a b) := by
 refine ACalls.of hP Tryz.func210 ok81e (by simp) fun _ _ => ?_
 simp (maxSteps:=9^9) (disch:=omega) only [c81, BZ, ↓reduceIte, wadd1, e_loop]
 refine alp (fun (s : Nat × Array Int) A1 W1 => A1 0 = some (.slr r 0 n 1) ∧ A1 1 = some (.int .i64 a) ∧ A1 2 = some (.int .i64 b) ∧ A1 6 = some (.int .i64 s.1) ∧
  W1 = pv W r s.2 ∧ a + 1 ≤ s.1 ∧ s.1 ≤ n + 1 ∧ s.2.size = n ∧ insOuter ltInt a b s.1 s.2 = insertionSort ltInt d a b) (fun s => n + 1 - s.1) (a + 1, d)
  ⟨rfl, rfl, rfl, rfl, rfl, lr _, by simp; omega, hn, rfl⟩ ?_
 rintro ⟨i, d1⟩ A1 W1 ⟨g0, g1, g2, g6, rfl, gi, gn, gs, gt⟩ _
 simp only at g6 gi gn gs gt
 rw [insOuter] at gt
 by_cases hib : i < b
 ·rw [if_pos hib] at gt
  simp only [BS, e_seq, cond_if, ↓reduceIte, nE, g2, g6, clt, hib, dT]
  refine awp_mono _ (Q := fun e A' W' => e = .exit 2 ∧ A' 0 = some (.slr r 0 n 1) ∧ A' 1 = some (.int .i64 a) ∧ A' 2 = some (.int .i64 b) ∧ A' 6 = some (.int .i64 i) ∧ W' = pv W r (insInner ltInt a i d1)) ?_ ?_
  ·rintro e A2 W2 ⟨rfl, q0, q1, q2, q6, rfl⟩
   simp (maxSteps:=9^9) (disch:=omega) only [BS, ↓reduceIte, nE, reduceCtorEq, q0, q1, q2, q6, wadd1]
   exact ⟨(i + 1, insInner ltInt a i d1), ⟨tt, tt, tt, rfl, rfl, by simp; omega, by simp; omega, by rw [insInner_size, gs], gt⟩, by simp; omega, lr _⟩
  ·rw [e_loop]
   refine alp (fun (s : Nat × Array Int) A2 W2 => A2 0 = some (.slr r 0 n 1) ∧ A2 1 = some (.int .i64 a) ∧ A2 2 = some (.int .i64 b) ∧ A2 6 = some (.int .i64 i) ∧ A2 7 = some (.int .i64 s.1) ∧
    W2 = pv W r s.2 ∧ s.1 ≤ i ∧ s.2.size = n ∧ insInner ltInt a s.1 s.2 = insInner ltInt a i d1) (fun s => s.1) (i, d1)
    ⟨by assumption, by assumption, by assumption, by assumption, rfl, rfl, by simp, gs, rfl⟩ ?_
   rintro ⟨j, d2⟩ A2 W2 ⟨q0, q1, q2, q6, q7, rfl, qi, qs, qt⟩ _
   simp only at q7 qi qs qt
   by_cases haj : a < j
   ·obtain ⟨j, rfl⟩ : ∃ j', j = j' + 1 := ⟨j - 1, by omega⟩
    rw [insInner] at qt
    have haj' : j + 1 > a := haj
    simp (maxSteps:=9^9) (disch:=omega) only [BZ, guard_if, ↓reduceIte, nE, reduceCtorEq, q0, q1, q7, cgt, haj', dT, wsub1, Nat.add_sub_cancel, ix, ld]
    refine (less_c hP _ _ _).mono ?_
    rintro X W' ⟨rfl, rfl⟩
    by_cases hlt : d2[j + 1]! < d2[j]!
    ·rw [if_pos (by simp [ltInt, hlt]; omega)] at qt
     simp (disch := (try simp only [sz_set]) <;> omega) only [BS, e_seq, cond_if, ↓reduceIte, nE, reduceCtorEq, hlt, dT, q0, q1, q2, q6, q7, wsub1, Nat.add_sub_cancel, ix, ld, st, sw]
     exact ⟨(j, swp d2 (j + 1) j), ⟨tt, tt, tt, tt, rfl, rfl, by simp; omega, by simp [swp, qs], qt⟩, by simp, lr _⟩
    ·rw [if_neg (by simp [ltInt, hlt])] at qt
     simp (maxSteps:=9^9) (disch:=omega) only [BS, BC, cond_if, ↓reduceIte, nE, reduceCtorEq, hlt, dF, q0, q1, q2, q6]
     exact ⟨tt, tt, tt, tt, tt, by rw [qt]⟩
   ·have hc : ¬ j > a := haj
    simp (maxSteps:=9^9) (disch:=omega) only [BX, guard_if, ↓reduceIte, nE, reduceCtorEq, q0, q1, q2, q6, q7, cgt, hc, dF]
    refine ⟨tt, tt, tt, tt, tt, ?_⟩
    rw [← qt]
    cases j with
    | zero => rfl
    | succ m => rw [insInner, if_neg (by simp; omega)]
 ·rw [if_neg hib] at gt
  simp only [BX, ↓reduceIte, nE, g2, g6, clt, hib, dF]
  exact ⟨_, rfl, _, _, .weak weak_id, lr _, rfl, by rw [← gt]⟩
def c86 : AC := (.r [.v 6 (.bool false)] (.r [.m 11 1,.a 12 (.bin .add) 11 1,.m 7 12] (.seq (.r [.v 8 (.int .i64 0)] (.block 0 (.loop (.seq (.r [.m 13 8,.a 14 (.bin .lss) 13 5] (.w 14 0)) (.seq (.block 1 (.seq (.block 2 (.loop (.seq (.seq (.par (.step 0 (.m 17 7) (.step 1 (.m 18 2) (.step 2 (.b 19 (.bin .lss) 17 18) (.step 3 (.m 20 19) (.step 4 (.M 21 0 20 true) (.step 5 (.M 22 7 20 true) (.step 8 (.M 25 0 20 true) (.step 9 (.M 26 7 20 true) (.step 10 (.P 27 (.bin .sub) [.t 26,.i 1] 20 true) (.step 6 (.B 23 (.idxp 1) 21 22 20 true) (.step 7 (.U 24 (.load false 1) 23 20 true) (.step 11 (.B 28 (.idxp 1) 25 27 20 true) (.step 12 (.U 29 (.load false 1) 28 20 true) (.step 13 (.B 30 (.call 114) 24 29 20 true) (.step 14 (.U 31 (.un .not) 30 20 true) (.step 15 (.p 32 .pick [.t 20,.t 31,.F]) .done))))))))))))))))) (.w 32 2)) (.block 3 (.reg [.m 33 7,.a 34 (.bin .add) 33 1,.m 7 34]))))) (.seq (.r [.m 35 7,.m 36 2,.b 37 (.bin .eql) 35 36] (.cond (.t 37) (.r [.v 6 (.bool true)] .ret) .skip)) (.seq (.r [.m 38 2,.m 39 1,.b 40 (.bin .sub) 38 39,.a 41 (.bin .lss) 40 50] (.cond (.t 41) (.r [.v 6 (.bool false)] .ret) .skip)) (.seq (.par (.step 0 (.m 42 0) (.step 1 (.m 43 7) (.step 2 (.m 44 0) (.step 3 (.m 45 7) (.step 4 (.a 46 (.bin .sub) 45 1) (.step 5 (.m 47 0) (.step 6 (.m 48 7) (.step 7 (.a 49 (.bin .sub) 48 1) (.step 10 (.m 52 0) (.step 11 (.m 53 7) (.step 8 (.b 50 (.idxp 1) 47 49) (.step 9 (.u 51 (.load false 1) 50) (.step 12 (.b 54 (.idxp 1) 52 53) (.step 13 (.u 55 (.load false 1) 54) (.step 14 (.b 56 (.idxp 1) 42 43) (.step 15 ⟨none,.store 1, [.t 56,.t 51], none⟩ (.step 16 (.b 57 (.idxp 1) 44 46) (.step 17 ⟨none,.store 1, [.t 57,.t 55], none⟩ .done))))))))))))))))))) (.seq (.r [.m 58 7,.m 59 1,.b 60 (.bin .sub) 58 59,.a 61 (.bin .geq) 60 2] (.cond (.t 61) (.r [.m 62 7,.a 63 (.bin .sub) 62 1,.m 9 63] (.block 4 (.loop (.seq (.r [.m 64 9,.a 65 (.bin .geq) 64 1] (.w 65 4)) (.seq (.block 5 (.seq (.seq (.par (.step 0 (.m 68 0) (.step 1 (.m 69 9) (.step 4 (.m 72 0) (.step 5 (.m 73 9) (.step 6 (.a 74 (.bin .sub) 73 1) (.step 2 (.b 70 (.idxp 1) 68 69) (.step 3 (.u 71 (.load false 1) 70) (.step 7 (.b 75 (.idxp 1) 72 74) (.step 8 (.u 76 (.load false 1) 75) (.step 9 (.b 77 (.call 114) 71 76) (.step 10 (.u 78 (.un .not) 77) .done)))))))))))) (.cond (.t 78) (.exit 4) .skip)) (.par (.step 0 (.m 79 0) (.step 1 (.m 80 9) (.step 2 (.m 81 0) (.step 3 (.m 82 9) (.step 4 (.a 83 (.bin .sub) 82 1) (.step 5 (.m 84 0) (.step 6 (.m 85 9) (.step 7 (.a 86 (.bin .sub) 85 1) (.step 10 (.m 89 0) (.step 11 (.m 90 9) (.step 8 (.b 87 (.idxp 1) 84 86) (.step 9 (.u 88 (.load false 1) 87) (.step 12 (.b 91 (.idxp 1) 89 90) (.step 13 (.u 92 (.load false 1) 91) (.step 14 (.b 93 (.idxp 1) 79 80) (.step 15 ⟨none,.store 1, [.t 93,.t 88], none⟩ (.step 16 (.b 94 (.idxp 1) 81 83) (.step 17 ⟨none,.store 1, [.t 94,.t 92], none⟩ .done))))))))))))))))))))) (.reg [.m 66 9,.a 67 (.bin .sub) 66 1,.m 9 67])))))) .skip)) (.r [.m 95 2,.m 96 7,.b 97 (.bin .sub) 95 96,.a 98 (.bin .geq) 97 2] (.cond (.t 98) (.r [.m 99 7,.a 100 (.bin .add) 99 1,.m 10 100] (.block 6 (.loop (.seq (.r [.m 101 10,.m 102 2,.b 103 (.bin .lss) 101 102] (.w 103 6)) (.seq (.block 7 (.seq (.seq (.par (.step 0 (.m 106 0) (.step 1 (.m 107 10) (.step 4 (.m 110 0) (.step 5 (.m 111 10) (.step 6 (.a 112 (.bin .sub) 111 1) (.step 2 (.b 108 (.idxp 1) 106 107) (.step 3 (.u 109 (.load false 1) 108) (.step 7 (.b 113 (.idxp 1) 110 112) (.step 8 (.u 114 (.load false 1) 113) (.step 9 (.b 115 (.call 114) 109 114) (.step 10 (.u 116 (.un .not) 115) .done)))))))))))) (.cond (.t 116) (.exit 6) .skip)) (.par (.step 0 (.m 117 0) (.step 1 (.m 118 10) (.step 2 (.m 119 0) (.step 3 (.m 120 10) (.step 4 (.a 121 (.bin .sub) 120 1) (.step 5 (.m 122 0) (.step 6 (.m 123 10) (.step 7 (.a 124 (.bin .sub) 123 1) (.step 10 (.m 127 0) (.step 11 (.m 128 10) (.step 8 (.b 125 (.idxp 1) 122 124) (.step 9 (.u 126 (.load false 1) 125) (.step 12 (.b 129 (.idxp 1) 127 128) (.step 13 (.u 130 (.load false 1) 129) (.step 14 (.b 131 (.idxp 1) 117 118) (.step 15 ⟨none,.store 1, [.t 131,.t 126], none⟩ (.step 16 (.b 132 (.idxp 1) 119 121) (.step 17 ⟨none,.store 1, [.t 132,.t 130], none⟩ .done))))))))))))))))))))) (.reg [.m 104 10,.a 105 (.bin .add) 104 1,.m 10 105])))))) .skip)))))))) (.reg [.m 15 8,.a 16 (.bin .add) 15 1,.m 8 16])))))) (.r [.v 6 (.bool false)] .ret))))
theorem ok86e : compF Tryz.prog Tryz.f215 ⟨true, false, []⟩ = some (c86, [.tmp 6], 133) := by kernel_rfl
theorem clt50 {a : Nat} : decide ((a : Int) < 50) = decide (a < 50) := by simp; omega
theorem clt5 {a : Nat} : decide ((a : Int) < 5) = decide (a < 5) := by simp; omega
theorem cge2 {a : Nat} : decide ((a : Int) ≥ 2) = decide (a ≥ 2) := by simp; omega
theorem cge1 {a : Nat} : decide ((a : Int) ≥ 1) = decide (a ≥ 1) := by simp; omega
theorem ceq {a b : Nat} : ((a : Int) == (b : Int)) = decide (a = b) := by
 by_cases h : a = b
 ·simp [h]
 ·simp [h]; omega
theorem shiftDown_size (lt : Int → Int → Bool) : ∀ (j : Nat) (d : Array Int), (shiftDown lt j d).size = d.size
 | 0, d => rfl
 | j + 1, d => by
  rw [shiftDown]
  split
  ·rfl
  ·rw [shiftDown_size]; simp [swp]
theorem shiftUp_size (lt : Int → Int → Bool) (b : Nat) : ∀ (m j : Nat) (d : Array Int), b - j ≤ m → (shiftUp lt b j d).size = d.size := by
 intro m
 induction m with
 | zero => intro j d h; rw [shiftUp, if_neg (by omega)]
 | succ m ih =>
  intro j d h
  rw [shiftUp]
  split
  ·split
   ·rfl
   ·rw [ih _ _ (by omega)]; simp [swp]
  ·rfl
theorem scanSorted_le (lt : Int → Int → Bool) (b : Nat) (d : Array Int) : ∀ (m i : Nat), b - i ≤ m → i ≤ b → i ≤ scanSorted lt d b i ∧ scanSorted lt d b i ≤ b := by
 intro m
 induction m with
 | zero => intro i h hi; rw [scanSorted, if_neg (by simp; omega)]; omega
 | succ m ih =>
  intro i h hi
  rw [scanSorted]
  split
  ·rename_i h1
   have := ih (i + 1) (by omega) (by simp at h1; omega)
   omega
  ·omega
theorem partialIns_c (hP : PE E) (W : AW) (r n a b : Nat) (d : Array Int) (hn : d.size = n) (hab : a < b) (hb : b ≤ n) (hsm : n < 2 ^ 48) :
  ACalls E 215 [.slr r 0 n 1, .int .i64 a, .int .i64 b] (pv W r d) fun X W' => X = .bool (partialInsertionSort ltInt d a b).2 ∧ W' = pv W r (partialInsertionSort ltInt d a b).1 := by
 refine ACalls.of hP Tryz.func215 ok86e (by simp) fun _ _ => ?_
 simp (maxSteps:=9^9) (disch:=omega) only [c86, BZ, ↓reduceIte, nE, wadd1, e_loop]
 refine alp (fun (s : Nat × Nat × Array Int) A1 W1 => A1 0 = some (.slr r 0 n 1) ∧ A1 1 = some (.int .i64 a) ∧ A1 2 = some (.int .i64 b) ∧ A1 7 = some (.int .i64 s.2.1) ∧ A1 8 = some (.int .i64 s.1) ∧
  W1 = pv W r s.2.2 ∧ s.1 ≤ 5 ∧ a + 1 ≤ s.2.1 ∧ s.2.1 ≤ b ∧ s.2.2.size = n ∧ partialIns ltInt a b (5 - s.1) s.2.1 s.2.2 = partialInsertionSort ltInt d a b) (fun s => 5 - s.1) (0, a + 1, d)
  ⟨rfl, rfl, rfl, rfl, rfl, rfl, by simp, lr _, hab, hn, rfl⟩ ?_
 rintro ⟨k, i, d1⟩ A1 W1 ⟨g0, g1, g2, g7, g8, rfl, gk, gi, gb, gs, gt⟩ _
 simp only at g7 g8 gk gi gb gs gt
 by_cases hk : k < 5
 ·rw [show 5 - k = (5 - (k + 1)) + 1 by omega, partialIns_succ] at gt
  simp only [BS, e_seq, cond_if, ↓reduceIte, g8, clt5, hk, dT]
  refine awp_mono _ (Q := fun e A' W' => e = .exit 2 ∧ A' 0 = some (.slr r 0 n 1) ∧ A' 1 = some (.int .i64 a) ∧ A' 2 = some (.int .i64 b) ∧ A' 7 = some (.int .i64 ((scanSorted ltInt d1 b i : Nat) : Int)) ∧ A' 8 = some (.int .i64 k) ∧ W' = pv W r d1) ?_ ?_
  rotate_left
  ·rw [e_loop]
   refine alp (fun (s : Nat) A2 W2 => A2 0 = some (.slr r 0 n 1) ∧ A2 1 = some (.int .i64 a) ∧ A2 2 = some (.int .i64 b) ∧ A2 7 = some (.int .i64 s) ∧ A2 8 = some (.int .i64 k) ∧
    W2 = pv W r d1 ∧ i ≤ s ∧ s ≤ b ∧ scanSorted ltInt d1 b s = scanSorted ltInt d1 b i) (fun s => b - s) i
    ⟨by assumption, by assumption, by assumption, by assumption, by assumption, rfl, lr _, gb, rfl⟩ ?_
   rintro s A2 W2 ⟨q0, q1, q2, q7, q8, rfl, qi, qb, qt⟩ _
   rw [scanSorted] at qt
   by_cases h1 : s < b
   ·simp (maxSteps:=9^9) (disch:=omega) only [BZ, guard_if, ↓reduceIte, nE, reduceCtorEq, q0, q2, q7, clt, h1, dT, wsub1, ix, ld]
    refine (less_c hP _ _ _).mono ?_
    rintro X W' ⟨rfl, rfl⟩
    by_cases h2 : d1[s]! < d1[s - 1]!
    ·rw [if_neg (by simp [h1, ltInt, h2])] at qt
     simp (maxSteps:=9^9) (disch:=omega) only [BS, BC, cond_if, guard_if, ↓reduceIte, nE, reduceCtorEq, q0, q1, q2, q7, q8, h2, dT, Bool.not_true]
     exact ⟨tt, tt, tt, tt, by rw [← qt], tt, tt⟩
    ·rw [if_pos (by simp [h1, ltInt, h2])] at qt
     simp (maxSteps:=9^9) (disch:=omega) only [BS, cond_if, guard_if, ↓reduceIte, nE, reduceCtorEq, q0, q1, q2, q7, q8, h2, dF, Bool.not_false, wadd1]
     exact ⟨s + 1, ⟨tt, tt, tt, rfl, tt, tt, by omega, by omega, qt⟩, by omega, lr _⟩
   ·rw [if_neg (by simp [h1])] at qt
    simp (maxSteps:=9^9) (disch:=omega) only [BX, guard_if, ↓reduceIte, nE, reduceCtorEq, q0, q1, q2, q7, q8, clt, h1, dF]
    exact ⟨tt, tt, tt, tt, by rw [← qt], tt, tt⟩
  rintro e A2 W2 ⟨rfl, q0, q1, q2, q7, q8, rfl⟩
  obtain ⟨ib, ie⟩ := scanSorted_le ltInt b d1 _ i (lr _) gb
  obtain ⟨i2, hi2⟩ : ∃ i2, i2 = scanSorted ltInt d1 b i := ⟨_, rfl⟩
  rw [← hi2] at q7 ib ie gt
  by_cases h3 : i2 = b
  ·rw [if_pos h3] at gt
   simp (maxSteps:=9^9) (disch:=omega) only [BX, ↓reduceIte, nE, q2, q7, ceq, h3, dT]
   exact ⟨_, rfl, _, _, .weak weak_id, lr _, by rw [← gt], by rw [← gt]⟩
  rw [if_neg h3] at gt
  by_cases h4 : b - a < 50
  ·rw [if_pos h4] at gt
   simp (maxSteps:=9^9) (disch:=omega) only [BX, ↓reduceIte, nE, q1, q2, q7, ceq, h3, dF, wsub, clt50, h4, dT]
   exact ⟨_, rfl, _, _, .weak weak_id, lr _, by rw [← gt], by rw [← gt]⟩
  rw [if_neg h4] at gt
  have hs2 : (swp d1 i2 (i2 - 1)).size = n := by simp [swp, gs]
  obtain ⟨d3, hd3⟩ : ∃ d3, d3 = fixDown ltInt a i2 (swp d1 i2 (i2 - 1)) := ⟨_, rfl⟩
  rw [← hd3] at gt
  by_cases h5 : i2 - a ≥ 2
  ·have hd3' : d3 = shiftDown ltInt (i2 - 1) (swp d1 i2 (i2 - 1)) := by rw [hd3, fixDown, if_pos h5]
   simp (disch := (try simp only [sz_set]) <;> omega) only [BX, ↓reduceIte, nE, reduceCtorEq, q0, q1, q2, q7, ceq, h3, dF, wsub, wsub1, clt50, h4, cge2, h5, dT, ix, ld, st, sw]
   refine awp_mono _ (Q := fun e A' W' => e = .exit 4 ∧ A' 0 = some (.slr r 0 n 1) ∧ A' 1 = some (.int .i64 a) ∧ A' 2 = some (.int .i64 b) ∧ A' 7 = some (.int .i64 i2) ∧ A' 8 = some (.int .i64 k) ∧ W' = pv W r d3) ?_ ?_
   rotate_left
   ·rw [e_loop]
    refine alp (fun (s : Nat × Array Int) A5 W5 => A5 0 = some (.slr r 0 n 1) ∧ A5 1 = some (.int .i64 a) ∧ A5 2 = some (.int .i64 b) ∧ A5 7 = some (.int .i64 i2) ∧ A5 8 = some (.int .i64 k) ∧ A5 9 = some (.int .i64 s.1) ∧
     W5 = pv W r s.2 ∧ s.1 < n ∧ s.2.size = n ∧ shiftDown ltInt s.1 s.2 = d3) (fun s => s.1) (i2 - 1, swp d1 i2 (i2 - 1))
     ⟨by simp only [BS, ↓reduceIte, reduceCtorEq, q0], by simp only [BS, ↓reduceIte, nE, q1], by simp only [BS, ↓reduceIte, nE, q2], by simp only [BS, ↓reduceIte, nE, q7], by simp only [BS, ↓reduceIte, nE, q8], rfl, rfl, by simp; omega, hs2, hd3'.symm⟩ ?_
    rintro ⟨j, d4⟩ A5 W5 ⟨w0, w1, w2, w7, w8, w9, rfl, wj, ws, wt⟩ _
    simp only at w9 wj ws wt
    cases j with
    | zero =>
     have k1 : ¬ 0 ≥ 1 := by decide
     simp (maxSteps:=9^9) (disch:=omega) only [BX, ↓reduceIte, nE, reduceCtorEq, w0, w1, w2, w7, w8, w9, cge1, k1, dF]
     exact ⟨tt, tt, tt, tt, tt, tt, by rw [← wt]; rfl⟩
    | succ j =>
     have k1 : j + 1 ≥ 1 := by omega
     rw [shiftDown] at wt
     simp (maxSteps:=9^9) (disch:=omega) only [BX, ↓reduceIte, nE, reduceCtorEq, w0, w9, cge1, k1, dT, wsub1, Nat.add_sub_cancel, ix, ld]
     refine (less_c hP _ _ _).mono ?_
     rintro X W' ⟨rfl, rfl⟩
     by_cases k2 : d4[j + 1]! < d4[j]!
     ·rw [if_neg (by simp [ltInt, k2])] at wt
      simp (disch := (try simp only [sz_set]) <;> omega) only [BS, BC, cond_if, ↓reduceIte, nE, reduceCtorEq, w0, w1, w2, w7, w8, w9, k2, dT, Bool.not_true, wsub1, Nat.add_sub_cancel, ix, ld, st, sw]
      exact ⟨(j, swp d4 (j + 1) j), ⟨tt, tt, tt, tt, tt, rfl, rfl, by simp; omega, by simp [swp, ws], wt⟩, by simp, lr _⟩
     ·rw [if_pos (by simp [ltInt, k2])] at wt
      simp (maxSteps:=9^9) (disch:=omega) only [BS, cond_if, ↓reduceIte, nE, reduceCtorEq, w0, w1, w2, w7, w8, k2, dF, Bool.not_false]
      exact ⟨tt, tt, tt, tt, tt, tt, by rw [wt]⟩
   rintro e A3 W3 ⟨rfl, q0, q1, q2, q7, q8, rfl⟩
   have hs3 : d3.size = n := by rw [hd3]; unfold fixDown; split <;> simp [shiftDown_size, swp, gs]
   by_cases h6 : b - i2 ≥ 2
   ·simp (disch := (try simp only [sz_set]) <;> omega) only [BS, e_seq, cond_if, ↓reduceIte, nE, q2, q7, wsub, wadd1, cge2, h6, dT]
    refine awp_mono _ (Q := fun e A' W' => e = .exit 6 ∧ A' 0 = some (.slr r 0 n 1) ∧ A' 1 = some (.int .i64 a) ∧ A' 2 = some (.int .i64 b) ∧ A' 7 = some (.int .i64 i2) ∧ A' 8 = some (.int .i64 k) ∧ W' = pv W r (shiftUp ltInt b (i2 + 1) d3)) ?_ ?_
    ·rintro e A4 W4 ⟨rfl, u0, u1, u2, u7, u8, rfl⟩
     simp (maxSteps:=9^9) (disch:=omega) only [BS, ↓reduceIte, nE, reduceCtorEq, u0, u1, u2, u7, u8, wadd1]
     refine ⟨(k + 1, i2, shiftUp ltInt b (i2 + 1) d3), ⟨tt, tt, tt, rfl, rfl, rfl, by simp; omega, by simp; omega, ie, by rw [shiftUp_size _ _ _ _ _ (lr _), hs3], ?_⟩, by simp; omega, lr _⟩
     rw [← gt, fixUp, if_pos h6]
    ·rw [e_loop]
     refine alp (fun (s : Nat × Array Int) A5 W5 => A5 0 = some (.slr r 0 n 1) ∧ A5 1 = some (.int .i64 a) ∧ A5 2 = some (.int .i64 b) ∧ A5 7 = some (.int .i64 i2) ∧ A5 8 = some (.int .i64 k) ∧ A5 10 = some (.int .i64 s.1) ∧
      W5 = pv W r s.2 ∧ 1 ≤ s.1 ∧ s.2.size = n ∧ shiftUp ltInt b s.1 s.2 = shiftUp ltInt b (i2 + 1) d3) (fun s => b - s.1) (i2 + 1, d3)
      ⟨by simp only [BS, ↓reduceIte, reduceCtorEq, q0], by simp only [BS, ↓reduceIte, nE, q1], by simp only [BS, ↓reduceIte, nE, q2], by simp only [BS, ↓reduceIte, nE, q7], by simp only [BS, ↓reduceIte, nE, q8], rfl, rfl, by simp, hs3, rfl⟩ ?_
     rintro ⟨j, d4⟩ A5 W5 ⟨w0, w1, w2, w7, w8, w10, rfl, wj, ws, wt⟩ _
     simp only at w10 wj ws wt
     rw [shiftUp] at wt
     by_cases k1 : j < b
     ·rw [if_pos k1] at wt
      simp (maxSteps:=9^9) (disch:=omega) only [BX, ↓reduceIte, nE, reduceCtorEq, w0, w2, w10, clt, k1, dT, wsub1, ix, ld]
      refine (less_c hP _ _ _).mono ?_
      rintro X W' ⟨rfl, rfl⟩
      by_cases k2 : d4[j]! < d4[j - 1]!
      ·rw [if_neg (by simp [ltInt, k2])] at wt
       simp (disch := (try simp only [sz_set]) <;> omega) only [BS, BC, cond_if, ↓reduceIte, nE, reduceCtorEq, w0, w1, w2, w7, w8, w10, k2, dT, Bool.not_true, wadd1, wsub1, ix, ld, st, sw]
       exact ⟨(j + 1, swp d4 j (j - 1)), ⟨tt, tt, tt, tt, tt, rfl, rfl, by simp, by simp [swp, ws], wt⟩, by simp; omega, lr _⟩
      ·rw [if_pos (by simp [ltInt, k2])] at wt
       simp (maxSteps:=9^9) (disch:=omega) only [BS, cond_if, ↓reduceIte, nE, reduceCtorEq, w0, w1, w2, w7, w8, k2, dF, Bool.not_false]
       exact ⟨tt, tt, tt, tt, tt, tt, by rw [wt]⟩
     ·rw [if_neg k1] at wt
      simp (maxSteps:=9^9) (disch:=omega) only [BX, ↓reduceIte, nE, reduceCtorEq, w0, w1, w2, w7, w8, w10, clt, k1, dF]
      exact ⟨tt, tt, tt, tt, tt, tt, by rw [wt]⟩
   ·simp (disch := (try simp only [sz_set]) <;> omega) only [BX, ↓reduceIte, nE, reduceCtorEq, q0, q1, q2, q7, q8, dF, wsub, wadd1, cge2, h6]
    refine ⟨(k + 1, i2, d3), ⟨tt, tt, tt, rfl, rfl, rfl, by simp; omega, by simp; omega, ie, hs3, ?_⟩, by simp; omega, lr _⟩
    rw [← gt, fixUp, if_neg h6]
  ·have hd3' : d3 = swp d1 i2 (i2 - 1) := by rw [hd3, fixDown, if_neg h5]
   have hs3 : d3.size = n := by rw [hd3]; unfold fixDown; split <;> simp [shiftDown_size, swp, gs]
   by_cases h6 : b - i2 ≥ 2
   ·simp (disch := (try simp only [sz_set]) <;> omega) only [BX, ↓reduceIte, nE, reduceCtorEq, q0, q1, q2, q7, ceq, h3, dF, wsub, wsub1, wadd1, clt50, h4, cge2, h5, h6, dT, ix, ld, st, sw, ← hd3']
    refine awp_mono _ (Q := fun e A' W' => e = .exit 6 ∧ A' 0 = some (.slr r 0 n 1) ∧ A' 1 = some (.int .i64 a) ∧ A' 2 = some (.int .i64 b) ∧ A' 7 = some (.int .i64 i2) ∧ A' 8 = some (.int .i64 k) ∧ W' = pv W r (shiftUp ltInt b (i2 + 1) d3)) ?_ ?_
    ·rintro e A4 W4 ⟨rfl, u0, u1, u2, u7, u8, rfl⟩
     simp (maxSteps:=9^9) (disch:=omega) only [BS, ↓reduceIte, nE, reduceCtorEq, u0, u1, u2, u7, u8, wadd1]
     refine ⟨(k + 1, i2, shiftUp ltInt b (i2 + 1) d3), ⟨tt, tt, tt, rfl, rfl, rfl, by simp; omega, by simp; omega, ie, by rw [shiftUp_size _ _ _ _ _ (lr _), hs3], ?_⟩, by simp; omega, lr _⟩
     rw [← gt, fixUp, if_pos h6]
    ·rw [e_loop]
     refine alp (fun (s : Nat × Array Int) A5 W5 => A5 0 = some (.slr r 0 n 1) ∧ A5 1 = some (.int .i64 a) ∧ A5 2 = some (.int .i64 b) ∧ A5 7 = some (.int .i64 i2) ∧ A5 8 = some (.int .i64 k) ∧ A5 10 = some (.int .i64 s.1) ∧
      W5 = pv W r s.2 ∧ 1 ≤ s.1 ∧ s.2.size = n ∧ shiftUp ltInt b s.1 s.2 = shiftUp ltInt b (i2 + 1) d3) (fun s => b - s.1) (i2 + 1, d3)
      ⟨by simp only [BS, ↓reduceIte, reduceCtorEq, q0], by simp only [BS, ↓reduceIte, nE, q1], by simp only [BS, ↓reduceIte, nE, q2], by simp only [BS, ↓reduceIte, nE, q7], by simp only [BS, ↓reduceIte, nE, q8], rfl, rfl, by simp, hs3, rfl⟩ ?_
     rintro ⟨j, d4⟩ A5 W5 ⟨w0, w1, w2, w7, w8, w10, rfl, wj, ws, wt⟩ _
     simp only at w10 wj ws wt
     rw [shiftUp] at wt
     by_cases k1 : j < b
     ·rw [if_pos k1] at wt
      simp (maxSteps:=9^9) (disch:=omega) only [BX, ↓reduceIte, nE, reduceCtorEq, w0, w2, w10, clt, k1, dT, wsub1, ix, ld]
      refine (less_c hP _ _ _).mono ?_
      rintro X W' ⟨rfl, rfl⟩
      by_cases k2 : d4[j]! < d4[j - 1]!
      ·rw [if_neg (by simp [ltInt, k2])] at wt
       simp (disch := (try simp only [sz_set]) <;> omega) only [BS, BC, cond_if, ↓reduceIte, nE, reduceCtorEq, w0, w1, w2, w7, w8, w10, k2, dT, Bool.not_true, wadd1, wsub1, ix, ld, st, sw]
       exact ⟨(j + 1, swp d4 j (j - 1)), ⟨tt, tt, tt, tt, tt, rfl, rfl, by simp, by simp [swp, ws], wt⟩, by simp; omega, lr _⟩
      ·rw [if_pos (by simp [ltInt, k2])] at wt
       simp (maxSteps:=9^9) (disch:=omega) only [BS, cond_if, ↓reduceIte, nE, reduceCtorEq, w0, w1, w2, w7, w8, k2, dF, Bool.not_false]
       exact ⟨tt, tt, tt, tt, tt, tt, by rw [wt]⟩
     ·rw [if_neg k1] at wt
      simp (maxSteps:=9^9) (disch:=omega) only [BX, ↓reduceIte, nE, reduceCtorEq, w0, w1, w2, w7, w8, w10, clt, k1, dF]
      exact ⟨tt, tt, tt, tt, tt, tt, by rw [wt]⟩
   ·simp (disch := (try simp only [sz_set]) <;> omega) only [BX, ↓reduceIte, nE, reduceCtorEq, q0, q1, q2, q7, q8, ceq, h3, dF, wsub, wsub1, wadd1, clt50, h4, cge2, h5, h6, ix, ld, st, sw, ← hd3']
    refine ⟨(k + 1, i2, d3), ⟨tt, tt, tt, rfl, rfl, rfl, by simp; omega, by simp; omega, ie, hs3, ?_⟩, by simp; omega, lr _⟩
    rw [← gt, fixUp, if_neg h6]
 ·have : 5 - k = 0 := by omega
  rw [this] at gt
  simp only [BX, ↓reduceIte, g8, clt5, hk, dF]
  exact ⟨_, rfl, _, _, .weak weak_id, lr _, by rw [← gt]; rfl, by rw [← gt]; rfl⟩
def c91 : AC := (.r [.v 2 (.int .i64 0)] (.seq (.r [.m 3 0,.p 4 (.bin .geq) [.t 3,.c (.int .u64 4294967296)]] (.cond (.t 4) (.r [.m 5 0,.p 6 (.bin .shr) [.t 5,.c (.int .u64 32)],.m 0 6] (.reg [.v 2 (.int .i64 32)])) .skip)) (.seq (.r [.m 7 0,.p 8 (.bin .geq) [.t 7,.c (.int .u64 65536)]] (.cond (.t 8) (.r [.m 9 0,.p 10 (.bin .shr) [.t 9,.c (.int .u64 16)],.m 0 10] (.reg [.m 11 2,.a 12 (.bin .add) 11 16,.m 2 12])) .skip)) (.seq (.r [.m 13 0,.p 14 (.bin .geq) [.t 13,.c (.int .u64 256)]] (.cond (.t 14) (.r [.m 15 0,.p 16 (.bin .shr) [.t 15,.c (.int .u64 8)],.m 0 16] (.reg [.m 17 2,.a 18 (.bin .add) 17 8,.m 2 18])) .skip)) (.r [.m 19 2,.m 20 0,.u 21 (.conv .u8) 20,.p 22 .idxs [.c (.str ⟨#[0, 1, 2, 2, 3, 3, 3, 3, 4, 4, 4, 4, 4, 4, 4, 4, 5, 5, 5, 5, 5, 5, 5, 5, 5, 5, 5, 5, 5, 5, 5, 5, 6, 6, 6, 6, 6, 6, 6, 6, 6, 6, 6, 6, 6, 6, 6, 6, 6, 6, 6, 6, 6, 6, 6, 6, 6, 6, 6, 6, 6, 6, 6, 6, 7, 7, 7, 7, 7, 7, 7, 7, 7, 7, 7, 7, 7, 7, 7, 7, 7, 7, 7, 7, 7, 7, 7, 7, 7, 7, 7, 7, 7, 7, 7, 7, 7, 7, 7, 7, 7, 7, 7, 7, 7, 7, 7, 7, 7, 7, 7, 7, 7, 7, 7, 7, 7, 7, 7, 7, 7, 7, 7, 7, 7, 7, 7, 7, 8, 8, 8, 8, 8, 8, 8, 8, 8, 8, 8, 8, 8, 8, 8, 8, 8, 8, 8, 8, 8, 8, 8, 8, 8, 8, 8, 8, 8, 8, 8, 8, 8, 8, 8, 8, 8, 8, 8, 8, 8, 8, 8, 8, 8, 8, 8, 8, 8, 8, 8, 8, 8, 8, 8, 8, 8, 8, 8, 8, 8, 8, 8, 8, 8, 8, 8, 8, 8, 8, 8, 8, 8, 8, 8, 8, 8, 8, 8, 8, 8, 8, 8, 8, 8, 8, 8, 8, 8, 8, 8, 8, 8, 8, 8, 8, 8, 8, 8, 8, 8, 8, 8, 8, 8, 8, 8, 8, 8, 8, 8, 8, 8, 8, 8, 8, 8, 8, 8, 8, 8, 8, 8, 8, 8, 8, 8, 8]⟩),.t 21],.u 23 (.conv .i64) 22,.b 24 (.bin .add) 19 23,.m 2 24] .ret)))))
theorem ok91e : compF Tryz.prog Tryz.f171 ⟨true, false, []⟩ = some (c91, [.tmp 2], 25) := by kernel_rfl
def c55 : AC := (.r [.v 2 (.int .i64 0)] (.seq (.cond (.c (.bool false)) (.r [.m 3 0,.u 4 (.conv .u32) 3,.u 5 (.call 187) 4,.m 2 5] .ret) .skip) (.r [.m 6 0,.u 7 (.call 171) 6,.m 2 7] .ret)))
theorem ok55e : compF Tryz.prog Tryz.f141 ⟨true, false, []⟩ = some (c55, [.tmp 2], 8) := by kernel_rfl
def c115 : AC := (.r [.v 2 (.int .u64 0)] (.r [.m 3 0,.u 4 (.conv .u64) 3,.u 5 (.call 141) 4,.p 6 (.bin .shl) [.c (.int .u64 1),.t 5],.m 2 6] .ret))
theorem ok115e : compF Tryz.prog Tryz.f232 ⟨true, false, []⟩ = some (c115, [.tmp 2], 7) := by kernel_rfl
def c116 : AC := (.r [.v 2 (.int .u64 0)] (.seq (.par (.step 0 (.m 3 0) (.step 1 (.u 4 .nilck 3) (.step 3 (.m 6 0) (.step 4 (.u 7 .nilck 6) (.step 2 (.u 5 (.load false 1) 4) (.step 5 (.u 8 (.load false 1) 7) (.step 6 (.p 9 (.bin .shl) [.t 8,.c (.int .u64 13)]) (.step 7 (.b 10 (.bin .xor) 5 9) (.step 8 (.u 11 .nilck 3) (.step 9 ⟨none,.store 1, [.t 11,.t 10], none⟩ .done))))))))))) (.seq (.par (.step 0 (.m 12 0) (.step 1 (.u 13 .nilck 12) (.step 3 (.m 15 0) (.step 4 (.u 16 .nilck 15) (.step 2 (.u 14 (.load false 1) 13) (.step 5 (.u 17 (.load false 1) 16) (.step 6 (.p 18 (.bin .shr) [.t 17,.c (.int .u64 7)]) (.step 7 (.b 19 (.bin .xor) 14 18) (.step 8 (.u 20 .nilck 12) (.step 9 ⟨none,.store 1, [.t 20,.t 19], none⟩ .done))))))))))) (.seq (.par (.step 0 (.m 21 0) (.step 1 (.u 22 .nilck 21) (.step 3 (.m 24 0) (.step 4 (.u 25 .nilck 24) (.step 2 (.u 23 (.load false 1) 22) (.step 5 (.u 26 (.load false 1) 25) (.step 6 (.p 27 (.bin .shl) [.t 26,.c (.int .u64 17)]) (.step 7 (.b 28 (.bin .xor) 23 27) (.step 8 (.u 29 .nilck 21) (.step 9 ⟨none,.store 1, [.t 29,.t 28], none⟩ .done))))))))))) (.r [.m 30 0,.u 31 .nilck 30,.u 32 (.load false 1) 31,.m 2 32] .ret)))))
theorem ok116e : compF Tryz.prog Tryz.f233 ⟨true, false, []⟩ = some (c116, [.tmp 2], 33) := by kernel_rfl
def c83 : AC := (.r [.m 11 2,.m 12 1,.b 13 (.bin .sub) 11 12,.m 6 13] (.r [.m 14 6,.a 15 (.bin .geq) 14 8] (.cond (.t 15) (.r [.m 16 6,.u 17 (.conv .u64) 16,.p 7 (.alloc [.int .u64 0]) [],⟨none,.store 1, [.t 7,.t 17], none⟩] (.r [.m 18 6,.u 19 (.call 232) 18,.m 8 19] (.r [.m 20 1,.m 21 6,.a 22 (.bin .quo) 21 4,.a 23 (.bin .mul) 22 2,.b 24 (.bin .add) 20 23,.a 25 (.bin .sub) 24 1,.m 9 25] (.block 0 (.loop (.seq (.r [.m 26 9,.m 27 1,.m 28 6,.a 29 (.bin .quo) 28 4,.a 30 (.bin .mul) 29 2,.b 31 (.bin .add) 27 30,.a 32 (.bin .add) 31 1,.b 33 (.bin .leq) 26 32] (.w 33 0)) (.seq (.block 1 (.r [.u 36 (.call 233) 7,.m 37 8,.p 38 (.bin .sub) [.t 37,.c (.int .u64 1)],.b 39 (.bin .and) 36 38,.u 40 (.conv .i64) 39,.m 10 40] (.seq (.r [.m 41 10,.m 42 6,.b 43 (.bin .geq) 41 42] (.cond (.t 43) (.reg [.m 44 10,.m 45 6,.b 46 (.bin .sub) 44 45,.m 10 46]) .skip)) (.par (.step 0 (.m 47 0) (.step 1 (.m 48 9) (.step 2 (.m 49 0) (.step 3 (.m 50 1) (.step 4 (.m 51 10) (.step 5 (.b 52 (.bin .add) 50 51) (.step 6 (.m 53 0) (.step 7 (.m 54 1) (.step 8 (.m 55 10) (.step 9 (.b 56 (.bin .add) 54 55) (.step 12 (.m 59 0) (.step 13 (.m 60 9) (.step 10 (.b 57 (.idxp 1) 53 56) (.step 11 (.u 58 (.load false 1) 57) (.step 14 (.b 61 (.idxp 1) 59 60) (.step 15 (.u 62 (.load false 1) 61) (.step 16 (.b 63 (.idxp 1) 47 48) (.step 17 ⟨none,.store 1, [.t 63,.t 58], none⟩ (.step 18 (.b 64 (.idxp 1) 49 52) (.step 19 ⟨none,.store 1, [.t 64,.t 62], none⟩ .done)))))))))))))))))))))))) (.reg [.m 34 9,.a 35 (.bin .add) 34 1,.m 9 35])))))))) .skip)))
theorem ok83e : compF Tryz.prog Tryz.f212 ⟨true, false, []⟩ = some (c83, [], 65) := by kernel_rfl
theorem un {n : Nat} (h : n < 2 ^ 64) : IntKind.u64.wrap (n : Int) = n := by
 have h1 : (n : Int) % 18446744073709551616 = n := Int.emod_eq_of_lt (by omega) (by omega)
 simp [IntKind.wrap, IntKind.bits, IntKind.signed, h1]
theorem u8n {n : Nat} (h : n < 256) : IntKind.u8.wrap (n : Int) = n := by
 have h1 : (n : Int) % 256 = n := Int.emod_eq_of_lt (by omega) (by omega)
 simp [IntKind.wrap, IntKind.bits, IntKind.signed, h1]
theorem shrN {W : AW} {K : V → AW → Prop} {n : Nat} (s : Nat) (hs : s ≤ 64) : sem E (.bin .shr) [.int .u64 (n : Int), .int .u64 (s : Int)] W K = K (.int .u64 ((n / 2 ^ s : Nat) : Int)) W := by
 have h0 : (0 : Int) ≤ (s : Int) := by omega
 have h1 : binI .shr .u64 n s = some (.int .u64 ((n / 2 ^ s : Nat) : Int)) := by
  show shI .shr .u64 n s = _
  simp only [shI, h0, ↓reduceIte, Int.toNat_natCast, IntKind.bits, Nat.min_eq_left hs]
  congr 2
  rw [show ((2 : Int) ^ s) = ((2 ^ s : Nat) : Int) by simp]
  exact (Int.ofNat_fdiv n (2 ^ s)).symm
 simp only [sem, rsem, tsem, ↓reduceIte, h1]
theorem bitsLen_up {x : Nat} (k : Nat) (h : 2 ^ k ≤ x) : bitsLen x = k + bitsLen (x / 2 ^ k) := by
 have hp : 0 < 2 ^ k := Nat.two_pow_pos k
 apply Nat.le_antisymm
 ·rw [bitsLen_le_iff, Nat.pow_add]
  have := lt_two_pow_bitsLen (x / 2 ^ k)
  exact Nat.lt_of_lt_of_eq ((Nat.div_lt_iff_lt_mul hp).1 this) (Nat.mul_comm _ _)
 ·have hk : k < bitsLen x := by
   rcases Nat.lt_or_ge k (bitsLen x) with h1 | h1
   ·exact h1
   ·have := (bitsLen_le_iff x k).1 h1
    omega
  have : bitsLen (x / 2 ^ k) ≤ bitsLen x - k := by
   rw [bitsLen_le_iff, Nat.div_lt_iff_lt_mul hp, ← Nat.pow_add, show bitsLen x - k + k = bitsLen x by omega]
   exact lt_two_pow_bitsLen x
  omega
def lentab : ByteArray := ⟨#[0, 1, 2, 2, 3, 3, 3, 3, 4, 4, 4, 4, 4, 4, 4, 4, 5, 5, 5, 5, 5, 5, 5, 5, 5, 5, 5, 5, 5, 5, 5, 5, 6, 6, 6, 6, 6, 6, 6, 6, 6, 6, 6, 6, 6, 6, 6, 6, 6, 6, 6, 6, 6, 6, 6, 6, 6, 6, 6, 6, 6, 6, 6, 6, 7, 7, 7, 7, 7, 7, 7, 7, 7, 7, 7, 7, 7, 7, 7, 7, 7, 7, 7, 7, 7, 7, 7, 7, 7, 7, 7, 7, 7, 7, 7, 7, 7, 7, 7, 7, 7, 7, 7, 7, 7, 7, 7, 7, 7, 7, 7, 7, 7, 7, 7, 7, 7, 7, 7, 7, 7, 7, 7, 7, 7, 7, 7, 7, 8, 8, 8, 8, 8, 8, 8, 8, 8, 8, 8, 8, 8, 8, 8, 8, 8, 8, 8, 8, 8, 8, 8, 8, 8, 8, 8, 8, 8, 8, 8, 8, 8, 8, 8, 8, 8, 8, 8, 8, 8, 8, 8, 8, 8, 8, 8, 8, 8, 8, 8, 8, 8, 8, 8, 8, 8, 8, 8, 8, 8, 8, 8, 8, 8, 8, 8, 8, 8, 8, 8, 8, 8, 8, 8, 8, 8, 8, 8, 8, 8, 8, 8, 8, 8, 8, 8, 8, 8, 8, 8, 8, 8, 8, 8, 8, 8, 8, 8, 8, 8, 8, 8, 8, 8, 8, 8, 8, 8, 8, 8, 8, 8, 8, 8, 8, 8, 8, 8, 8, 8, 8, 8, 8, 8, 8, 8, 8]⟩
theorem lentab_all : (List.range 256).all (fun x => match lentab[x]? with
  | some b => b.toNat == bitsLen x
  | none => false) = true := by decide +kernel
theorem lentab_at {x : Nat} (h : x < 256) : ∃ b, lentab[x]? = some b ∧ b.toNat = bitsLen x := by
 have := List.all_eq_true.1 lentab_all x (by simpa using h)
 cases hb : lentab[x]? with
 | none => simp [hb] at this
 | some b => exact ⟨b, rfl, by simpa [hb] using this⟩
theorem sem_lentab {W : AW} {K : V → AW → Prop} {n : Nat} (h : n < 256) : sem E .idxs [.str lentab, .int .u8 (n : Int)] W K = K (.int .u8 ((bitsLen n : Nat) : Int)) W := by
 obtain ⟨b, h1, h2⟩ := lentab_at h
 have h0 : (0 : Int) ≤ (n : Int) := by omega
 simp only [sem, rsem, tsem, h0, ↓reduceIte, Int.toNat_natCast, h1, Option.map_some, h2]
theorem ge32 {n : Nat} (h : n < 4294967296) : decide ((n : Int) ≥ 4294967296) = false := by simp; omega
theorem ge16 {n : Nat} : decide ((n : Int) ≥ 65536) = decide (n ≥ 65536) := by simp; omega
theorem ge8 {n : Nat} : decide ((n : Int) ≥ 256) = decide (n ≥ 256) := by simp; omega
theorem shr16 {W : AW} {K : V → AW → Prop} {n : Nat} : sem E (.bin .shr) [.int .u64 (n : Int), .int .u64 16] W K = K (.int .u64 ((n / 2 ^ 16 : Nat) : Int)) W := shrN 16 (by decide)
theorem shr8 {W : AW} {K : V → AW → Prop} {n : Nat} : sem E (.bin .shr) [.int .u64 (n : Int), .int .u64 8] W K = K (.int .u64 ((n / 2 ^ 8 : Nat) : Int)) W := shrN 8 (by decide)
theorem bitsLen_small {n : Nat} (h : n < 256) : bitsLen n ≤ 8 := (bitsLen_le_iff n 8).2 h
theorem c0add {n : Nat} (h : n < 1000) : IntKind.i64.wrap (0 + (n : Int)) = n := by rw [Int.zero_add]; exact wn (by omega)
theorem c8add {n : Nat} (h : n < 1000) : IntKind.i64.wrap (IntKind.i64.wrap (0 + 8) + (n : Int)) = ((8 + n : Nat) : Int) := by
 rw [show IntKind.i64.wrap (0 + 8) = ((8 : Nat) : Int) from rfl]; exact wadd (by omega)
theorem c16add {n : Nat} (h : n < 1000) : IntKind.i64.wrap (IntKind.i64.wrap (0 + 16) + (n : Int)) = ((16 + n : Nat) : Int) := by
 rw [show IntKind.i64.wrap (0 + 16) = ((16 : Nat) : Int) from rfl]; exact wadd (by omega)
theorem c24add {n : Nat} (h : n < 1000) : IntKind.i64.wrap (IntKind.i64.wrap (IntKind.i64.wrap (0 + 16) + 8) + (n : Int)) = ((24 + n : Nat) : Int) := by
 rw [show IntKind.i64.wrap (IntKind.i64.wrap (0 + 16) + 8) = ((24 : Nat) : Int) from rfl]; exact wadd (by omega)
theorem len64_c (hP : PE E) (W : AW) (n : Nat) (hn : n < 4294967296) : ACalls E 171 [.int .u64 n] W fun X W' => X = .int .i64 (bitsLen n) ∧ W' = W := by
 refine ACalls.of hP Tryz.func171 ok91e (by simp) fun _ hok => ?_
 by_cases h1 : n ≥ 65536
 ·by_cases h2 : n / 2 ^ 16 ≥ 256
  ·have h3 : n / 2 ^ 16 / 2 ^ 8 < 256 := by omega
   have h4 := bitsLen_small h3
   simp (maxSteps:=9^9) (disch:=omega) only [c91, BX, ↓reduceIte, nE, reduceCtorEq, ge32, ge16, ge8, h1, h2, dT, shr16, shr8, u8n, ← lentab.eq_def, sem_lentab, wn, c24add]
   exact ⟨_, rfl, _, _, .weak weak_id, lr _, by rw [bitsLen_up (x := n) 16 (by simpa using h1), bitsLen_up (x := n / 2 ^ 16) 8 (by simpa using h2), ← Nat.add_assoc], rfl⟩
  ·have h3 : n / 2 ^ 16 < 256 := by omega
   have h4 := bitsLen_small h3
   simp (maxSteps:=9^9) (disch:=omega) only [c91, BX, ↓reduceIte, nE, reduceCtorEq, ge32, ge16, ge8, h1, h2, dT, dF, shr16, u8n, ← lentab.eq_def, sem_lentab, wn, c16add]
   exact ⟨_, rfl, _, _, .weak weak_id, lr _, by rw [bitsLen_up (x := n) 16 (by simpa using h1)], rfl⟩
 ·by_cases h2 : n ≥ 256
  ·have h3 : n / 2 ^ 8 < 256 := by omega
   have h4 := bitsLen_small h3
   simp (maxSteps:=9^9) (disch:=omega) only [c91, BX, ↓reduceIte, nE, reduceCtorEq, ge32, ge16, ge8, h1, h2, dT, dF, shr8, u8n, ← lentab.eq_def, sem_lentab, wn, c8add]
   exact ⟨_, rfl, _, _, .weak weak_id, lr _, by rw [bitsLen_up (x := n) 8 (by simpa using h2)], rfl⟩
  ·have h3 : n < 256 := by omega
   have h4 := bitsLen_small h3
   simp (maxSteps:=9^9) (disch:=omega) only [c91, BX, ↓reduceIte, nE, reduceCtorEq, ge32, ge16, ge8, h1, h2, dF, u8n, ← lentab.eq_def, sem_lentab, wn, c0add]
   exact ⟨_, rfl, _, _, .weak weak_id, lr _, rfl, rfl⟩
theorem len_c (hP : PE E) (W : AW) (n : Nat) (hn : n < 4294967296) : ACalls E 141 [.int .u64 n] W fun X W' => X = .int .i64 (bitsLen n) ∧ W' = W := by
 refine ACalls.of hP Tryz.func141 ok55e (by simp) fun _ hok => ?_
 simp only [c55, BX, ↓reduceIte, reduceCtorEq]
 refine (len64_c hP W n hn).mono ?_
 rintro X W' ⟨rfl, rfl⟩
 simp only [BS, BC, ↓reduceIte]
 exact ⟨_, rfl, _, _, .weak weak_id, lr _, rfl, rfl⟩
theorem nextPow_c (hP : PE E) (W : AW) (n : Nat) (hn : n < 4294967296) : ACalls E 232 [.int .i64 n] W fun X W' => X = .int .u64 ((1 <<< bitsLen n : Nat) : Int) ∧ W' = W := by
 refine ACalls.of hP Tryz.func232 ok115e (by simp) fun _ hok => ?_
 have hb : bitsLen n ≤ 32 := (bitsLen_le_iff n 32).2 (by omega)
 have hs : ∀ K : V → AW → Prop, sem E (.bin .shl) [.int .u64 1, .int .i64 ((bitsLen n : Nat) : Int)] W K = K (.int .u64 ((1 <<< bitsLen n : Nat) : Int)) W := by
  intro K
  have h0 : (0 : Int) ≤ ((bitsLen n : Nat) : Int) := by omega
  have h1 : shI .shl .u64 1 ((bitsLen n : Nat) : Int) = some (.int .u64 ((1 <<< bitsLen n : Nat) : Int)) := by
   simp only [shI, h0, ↓reduceIte, Int.toNat_natCast, IntKind.bits, Nat.min_eq_left (show bitsLen n ≤ 64 by omega)]
   congr 2
   have e : (1 : Int) * (2 : Int) ^ bitsLen n = ((1 <<< bitsLen n : Nat) : Int) := by simp [Nat.shiftLeft_eq]
   rw [e]
   exact un (by rw [Nat.shiftLeft_eq, Nat.one_mul]; exact Nat.lt_of_le_of_lt (Nat.pow_le_pow_right (by decide) hb) (by decide))
  simp only [sem, rsem, tsem, h1]
  rfl
 simp (maxSteps:=9^9) (disch:=omega) only [c115, BZ, ↓reduceIte, reduceCtorEq, un]
 refine (len_c hP W n hn).mono ?_
 rintro X W' ⟨rfl, rfl⟩
 simp only [BS, BC, ↓reduceIte, hs]
 exact ⟨_, rfl, _, _, .weak weak_id, lr _, rfl, rfl⟩
def px (A : AW) (p : Nat) (x : UInt64) : AW := A.put p (.row [.int .u64 (x.toNat : Int)])
theorem px_get {A : AW} {p : Nat} {x : UInt64} : (px A p x).get p = some (.row [.int .u64 (x.toNat : Int)]) := by simp [px, AW.put]
theorem ldx {A : AW} {K : V → AW → Prop} {p : Nat} {x : UInt64} : sem E (.load false 1) [.ptr p 0] (px A p x) K = K (.int .u64 (x.toNat : Int)) (px A p x) := sem_load_row px_get rfl
theorem stx {A : AW} {K : V → AW → Prop} {p : Nat} {x y : UInt64} : sem E (.store 1) [.ptr p 0, .int .u64 (y.toNat : Int)] (px A p x) K = K .undef (px A p y) := by
 rw [sem_store_row (s := 1) (x := .int .u64 (y.toNat : Int)) px_get rfl rfl (by simp)]
 show K .undef ((px A p x).put p (.row [.int .u64 (y.toNat : Int)])) = _
 congr 1
 simp only [px, AW.put, AW.mk.injEq, and_true]
 funext z
 by_cases h : z = p <;> simp [h]
theorem ofInt_u64 (x : UInt64) : BitVec.ofInt 64 (x.toNat : Int) = x.toBitVec := by
 apply BitVec.eq_of_toNat_eq
 rw [BitVec.toNat_ofInt]
 have := x.toNat_lt
 simp
 omega
theorem u64w (x : UInt64) : IntKind.u64.wrap (x.toNat : Int) = x.toNat := un x.toNat_lt
theorem xorx {W : AW} {K : V → AW → Prop} {x y : UInt64} : sem E (.bin .xor) [.int .u64 (x.toNat : Int), .int .u64 (y.toNat : Int)] W K = K (.int .u64 ((x ^^^ y).toNat : Int)) W := by
 have h1 : binI .xor .u64 x.toNat y.toNat = some (.int .u64 ((x ^^^ y).toNat : Int)) := by
  show (bitI .xor .u64 x.toNat y.toNat).map (V.int .u64) = _
  have : bitI .xor .u64 x.toNat y.toNat = some ((x ^^^ y).toNat : Int) := by
   show some (IntKind.u64.wrap ((BitVec.ofInt 64 (x.toNat : Int) ^^^ BitVec.ofInt 64 (y.toNat : Int)).toNat : Int)) = _
   rw [ofInt_u64, ofInt_u64]
   exact congrArg some (u64w (x ^^^ y))
  rw [this]; rfl
 simp only [sem, rsem, tsem, ↓reduceIte, h1]
theorem shlx {W : AW} {K : V → AW → Prop} {x : UInt64} (s : UInt64) (hs : s.toNat < 64) : sem E (.bin .shl) [.int .u64 (x.toNat : Int), .int .u64 (s.toNat : Int)] W K = K (.int .u64 ((x <<< s).toNat : Int)) W := by
 have h0 : (0 : Int) ≤ (s.toNat : Int) := by omega
 have h1 : binI .shl .u64 x.toNat s.toNat = some (.int .u64 ((x <<< s).toNat : Int)) := by
  show shI .shl .u64 x.toNat s.toNat = _
  simp only [shI, h0, ↓reduceIte, Int.toNat_natCast, IntKind.bits, Nat.min_eq_left (Nat.le_of_lt hs)]
  congr 2
  rw [UInt64.toNat_shiftLeft, Nat.mod_eq_of_lt hs, Nat.shiftLeft_eq]
  simp [IntKind.wrap, IntKind.bits, IntKind.signed]
 simp only [sem, rsem, tsem, ↓reduceIte, h1]
theorem shrx {W : AW} {K : V → AW → Prop} {x : UInt64} (s : UInt64) (hs : s.toNat < 64) : sem E (.bin .shr) [.int .u64 (x.toNat : Int), .int .u64 (s.toNat : Int)] W K = K (.int .u64 ((x >>> s).toNat : Int)) W := by
 rw [shrN s.toNat (by omega), UInt64.toNat_shiftRight, Nat.mod_eq_of_lt hs, Nat.shiftRight_eq_div_pow]
theorem shl13 {W : AW} {K : V → AW → Prop} {x : UInt64} : sem E (.bin .shl) [.int .u64 (x.toNat : Int), .int .u64 13] W K = K (.int .u64 ((x <<< 13).toNat : Int)) W := shlx 13 (by decide)
theorem shl17 {W : AW} {K : V → AW → Prop} {x : UInt64} : sem E (.bin .shl) [.int .u64 (x.toNat : Int), .int .u64 17] W K = K (.int .u64 ((x <<< 17).toNat : Int)) W := shlx 17 (by decide)
theorem shr7 {W : AW} {K : V → AW → Prop} {x : UInt64} : sem E (.bin .shr) [.int .u64 (x.toNat : Int), .int .u64 7] W K = K (.int .u64 ((x >>> 7).toNat : Int)) W := shrx 7 (by decide)
theorem next_c (hP : PE E) (A : AW) (p : Nat) (x : UInt64) : ACalls E 233 [.ptr p 0] (px A p x) fun X W' => X = .int .u64 ((xorNext x).toNat : Int) ∧ W' = px A p (xorNext x) := by
 refine ACalls.of hP Tryz.func233 ok116e (by simp) fun _ hok => ?_
 simp only [c116, BZ, ↓reduceIte, nE, reduceCtorEq, ldx, stx, shl13, shl17, shr7, xorx]
 exact ⟨_, rfl, _, _, .weak weak_id, lr _, rfl, rfl⟩
def pb (W : AW) (r p : Nat) (d : Array Int) (x : UInt64) : AW := px (pv W r d) p x
theorem ldb {W : AW} {K : V → AW → Prop} {r p i : Nat} {d : Array Int} {x : UInt64} (hp : r ≠ p) (h : i < d.size) : sem E (.load false 1) [.vptr r i] (pb W r p d x) K = K (.int .u16 d[i]!) (pb W r p d x) :=
 sem_load_vec (s' := 1) (cells := cellsI d) (by simp [pb, px, pv, AW.put, hp]) (part_cellsI h)
theorem stb {W : AW} {K : V → AW → Prop} {r p i : Nat} {d : Array Int} {x : UInt64} {v : Int} (hp : r ≠ p) (h : i < d.size) : sem E (.store 1) [.vptr r i, .int .u16 v] (pb W r p d x) K = K .undef (pb W r p (d.setIfInBounds i v) x) := by
 have hg : (pb W r p d x).get r = some (.vec 1 (cellsI d)) := by simp [pb, px, pv, AW.put, hp]
 rw [sem_store_vec (s := 1) (x := .int .u16 v) hg rfl rfl (by rw [cellsI_len]; omega)]
 congr 1
 have e : (cellsI d).take i ++ (V.int .u16 v).cells ++ (cellsI d).drop (i + 1) = cellsI (d.setIfInBounds i v) := by
  have : (V.int .u16 v).cells = [V.int .u16 v] := rfl
  rw [this, show (cellsI d).take i ++ [V.int .u16 v] ++ (cellsI d).drop (i + 1) = (cellsI d).set i (V.int .u16 v) from by
   rw [List.set_eq_take_append_cons_drop, if_pos (by rw [cellsI_len]; exact h)]; simp]
  simp [cellsI, List.map_set]
 rw [e]
 simp only [pb, px, pv, AW.put, AW.mk.injEq, and_true]
 funext z
 by_cases h1 : z = r
 ·subst h1; simp [hp]
 ·by_cases h2 : z = p
  ·subst h2; simp [h1]
  ·simp [h1, h2]
def bsteps (a l m : Nat) : Nat → Nat → UInt64 × Array Int → UInt64 × Array Int
 | 0, _, st => st
 | k + 1, idx, st => bsteps a l m k (idx + 1) (breakStep a l m st idx)
theorem breakPatterns_eq (d : Array Int) (a b : Nat) (h : b - a ≥ 8) : breakPatterns d a b = (bsteps a (b - a) (1 <<< bitsLen (b - a)) 3 (a + (b - a) / 4 * 2 - 1) (UInt64.ofNat (b - a), d)).2 := by
 simp only [breakPatterns, h, ↓reduceIte, bsteps]
theorem usub1 {n : Nat} (h : 1 ≤ n) (h' : n < 2 ^ 64) : IntKind.u64.wrap ((n : Int) - 1) = ((n - 1 : Nat) : Int) := by
 rw [← un (show n - 1 < 2 ^ 64 by omega)]; congr 1; omega
theorem andx {W : AW} {K : V → AW → Prop} {x : UInt64} {m : Nat} (hm : m < 2 ^ 64) : sem E (.bin .and) [.int .u64 (x.toNat : Int), .int .u64 (m : Int)] W K = K (.int .u64 ((x.toNat &&& m : Nat) : Int)) W := by
 have h1 : binI .and .u64 x.toNat m = some (.int .u64 ((x.toNat &&& m : Nat) : Int)) := by
  show (bitI .and .u64 x.toNat m).map (V.int .u64) = _
  have : bitI .and .u64 x.toNat m = some ((x.toNat &&& m : Nat) : Int) := by
   show some (IntKind.u64.wrap ((BitVec.ofInt 64 (x.toNat : Int) &&& BitVec.ofInt 64 (m : Int)).toNat : Int)) = _
   rw [BitVec.toNat_and, BitVec.toNat_ofInt, BitVec.toNat_ofInt]
   have e1 : ((x.toNat : Int) % ((2 ^ 64 : Nat) : Int)).toNat = x.toNat := by have := x.toNat_lt; omega
   have e2 : ((m : Int) % ((2 ^ 64 : Nat) : Int)).toNat = m := by omega
   rw [e1, e2, un (Nat.lt_of_le_of_lt Nat.and_le_right hm)]
  rw [this]; rfl
 simp only [sem, rsem, tsem, ↓reduceIte, h1]
theorem ofNat_u64 {n : Nat} (h : n < 2 ^ 64) : (UInt64.ofNat n).toNat = n := by simp; omega
theorem bel_ints (n : Nat) (l : List Int) : V.belL n (l.map (V.int .u16)) = true := by
 induction l with
 | nil => rfl
 | cons x l ih => simp [V.belL, V.bel, ih]
theorem pv_ok {W : AW} {r : Nat} {d d' : Array Int} (h : (pv W r d).ok) (hr : r < W.nx) : (pv W r d').ok := by
 intro x o hx
 by_cases e : x = r
 ·subst e
  rw [pv_get] at hx
  cases hx
  refine ⟨hr, ?_⟩
  exact bel_ints _ _
 ·have : (pv W r d).get x = some o := by
   simp only [pv, AW.put, e, ↓reduceIte] at hx ⊢
   exact hx
  exact h x o this
theorem breakPatterns_c (hP : PE E) (W : AW) (r n a b : Nat) (d : Array Int) (hn : d.size = n) (hr : r < W.nx) (hab : a < b) (hb : b ≤ n) (hl : 8 ≤ b - a) (hsm : n < 4294967296) :
  ACalls E 212 [.slr r 0 n 1, .int .i64 a, .int .i64 b] (pv W r d) fun X W' => X = .tuple [] ∧ W' = pv W r (breakPatterns d a b) := by
 refine ACalls.of hP Tryz.func212 ok83e (by simp) fun _ hok => ?_
 rw [breakPatterns_eq d a b hl]
 obtain ⟨l, hl'⟩ : ∃ l, l = b - a := ⟨_, rfl⟩
 rw [← hl']
 have hg8 : l ≥ 8 := by omega
 have hlm := lt_two_pow_bitsLen l
 have hlm2 := two_pow_bitsLen_le (n := l) (by omega)
 obtain ⟨m, hm⟩ : ∃ m, m = 1 <<< bitsLen l := ⟨_, rfl⟩
 have hm' : m = 2 ^ bitsLen l := by rw [hm, Nat.shiftLeft_eq, Nat.one_mul]
 rw [← hm'] at hlm hlm2
 rw [← hm]
 obtain ⟨W1, hW1⟩ : ∃ W1, W1 = W.alloc (.row [.int .u64 0]) := ⟨_, rfl⟩
 have hp : r ≠ W.nx := by omega
 have hA0 : (pv W r d).alloc (.row [.int .u64 0]) = px (pv W1 r d) W.nx 0 := by
  rw [hW1]
  simp only [px, pv, AW.alloc, AW.put, AW.mk.injEq, and_true]
  funext x
  by_cases h : x = W.nx
  ·subst h; simp
  ·by_cases h2 : x = r <;> simp [h, h2]
 have hst : ∀ K : V → AW → Prop, sem E (.store 1) [.ptr W.nx 0, .int .u64 (l : Int)] (px (pv W1 r d) W.nx 0) K = K .undef (pb W1 r W.nx d (UInt64.ofNat l)) := by
  intro K
  have := stx (E := E) (K := K) (A := pv W1 r d) (p := W.nx) (x := 0) (y := UInt64.ofNat l)
  rwa [ofNat_u64 (by omega)] at this
 have hback : ∀ d' x z, z < (pv W r d').nx → (pb W1 r W.nx d' x).get z = (pv W r d').get z := by
  intro d' x z hz
  rw [pv_nx] at hz
  rw [hW1]
  have h1 : z ≠ W.nx := by omega
  by_cases h2 : z = r <;> simp [pb, px, pv, AW.alloc, AW.put, h1, h2, hp]
 simp (maxSteps:=9^9) (disch:=omega) only [c83, BX, ↓reduceIte, nE, wsub, ← hl', cge8, hg8, dT, un, pv_nx, hA0, hst]
 refine (nextPow_c hP _ l (by omega)).mono ?_
 rintro X W' ⟨rfl, rfl⟩
 rw [← hm]
 obtain ⟨i0, hi0⟩ : ∃ i0, i0 = a + l / 4 * 2 - 1 := ⟨_, rfl⟩
 simp (maxSteps:=9^9) (disch:=omega) only [BZ, ↓reduceIte, nE, quo4, wmulr2, wadd, wsub1, ← hi0]
 rw [e_loop]
 refine alp (fun (s : Nat × UInt64 × Array Int) A1 W2 => A1 0 = some (.slr r 0 n 1) ∧ A1 1 = some (.int .i64 a) ∧ A1 6 = some (.int .i64 l) ∧ A1 7 = some (.ptr W.nx 0) ∧ A1 8 = some (.int .u64 m) ∧ A1 9 = some (.int .i64 ((i0 + s.1 : Nat) : Int)) ∧
  W2 = pb W1 r W.nx s.2.2 s.2.1 ∧ s.1 ≤ 3 ∧ s.2.2.size = n ∧ bsteps a l m (3 - s.1) (i0 + s.1) s.2 = bsteps a l m 3 i0 (UInt64.ofNat l, d)) (fun s => 3 - s.1) (0, UInt64.ofNat l, d)
  ⟨rfl, rfl, rfl, rfl, rfl, rfl, rfl, by simp, hn, rfl⟩ ?_
 rintro ⟨t, x, d1⟩ A1 W2 ⟨g0, g1, g6, g7, g8, g9, rfl, gt, gs, gb⟩ _
 simp only at g9 gt gs gb
 by_cases ht : t < 3
 ·have hc : i0 + t ≤ a + l / 4 * 2 + 1 := by omega
  rw [show 3 - t = (3 - (t + 1)) + 1 by omega, bsteps] at gb
  simp (maxSteps:=9^9) (disch:=omega) only [BX, ↓reduceIte, nE, g1, g6, g7, g9, quo4, wmulr2, wadd, wadd1, cle, hc, dT]
  refine (next_c hP _ _ x).mono ?_
  rintro X W' ⟨rfl, rfl⟩
  obtain ⟨x', hx'⟩ : ∃ x', x' = xorNext x := ⟨_, rfl⟩
  obtain ⟨o, ho⟩ : ∃ o, o = x'.toNat &&& (m - 1) := ⟨_, rfl⟩
  have hol : o ≤ m - 1 := by rw [ho]; exact Nat.and_le_right
  rw [← hx']
  have hbs : breakStep a l m (x, d1) (i0 + t) = (x', swp d1 (i0 + t) (a + (if o ≥ l then o - l else o))) := by
   simp only [breakStep, ← hx', ← ho]
  rw [hbs] at gb
  have hpb : ∀ (d : Array Int) (y : UInt64), px (pv W1 r d) W.nx y = pb W1 r W.nx d y := fun _ _ => rfl
  by_cases h1 : o ≥ l
  ·rw [if_pos h1] at gb
   simp (disch := (try simp only [sz_set]) <;> omega) only [BS, e_seq, cond_if, ↓reduceIte, nE, reduceCtorEq, g0, g1, g6, g7, g8, g9, usub1, andx, ← ho, wn, cge, h1, dT, wsub, wadd, wadd1, ix, hpb, ldb, stb, sw]
   exact ⟨(t + 1, x', swp d1 (i0 + t) (a + (o - l))), ⟨tt, tt, tt, tt, tt, rfl, rfl, by simp; omega, by simp [swp, gs], gb⟩, by simp; omega, lr _⟩
  ·rw [if_neg h1] at gb
   simp (disch := (try simp only [sz_set]) <;> omega) only [BX, ↓reduceIte, nE, reduceCtorEq, g0, g1, g6, g7, g8, g9, usub1, andx, ← ho, wn, cge, h1, dF, wadd, wadd1, ix, hpb, ldb, stb, sw]
   exact ⟨(t + 1, x', swp d1 (i0 + t) (a + o)), ⟨tt, tt, tt, tt, tt, rfl, rfl, by simp; omega, by simp [swp, gs], gb⟩, by simp; omega, lr _⟩
 ·have hc : ¬ i0 + t ≤ a + l / 4 * 2 + 1 := by omega
  have h3 : 3 - t = 0 := by omega
  rw [h3, bsteps] at gb
  simp (maxSteps:=9^9) (disch:=omega) only [BX, ↓reduceIte, nE, g1, g6, g9, quo4, wmulr2, wadd, wadd1, cle, hc, dF]
  exact ⟨_, rfl, _, _, .weak (weak_back (W := pv W r d1) (pv_ok hok hr) rfl (hback _ _)), lr _, rfl, by rw [← gb]⟩
def c54 : AC := (.r [.v 8 (.bool true)] (.r [.v 9 (.bool true)] (.block 0 (.loop (.block 1 (.r [.m 19 2,.m 20 1,.b 21 (.bin .sub) 19 20,.m 10 21] (.seq (.r [.m 22 10,.a 23 (.bin .leq) 22 12] (.cond (.t 23) (.r [.m 24 0,.m 25 1,.m 26 2,.p 27 (.call 210) [.t 24,.t 25,.t 26]] .ret) .skip)) (.seq (.r [.m 28 3,.a 29 (.bin .eql) 28 0] (.cond (.t 29) (.r [.m 30 0,.m 31 1,.m 32 2,.p 33 (.call 211) [.t 30,.t 31,.t 32]] .ret) .skip)) (.seq (.r [.m 34 8,.u 35 (.un .not) 34] (.cond (.t 35) (.r [.m 36 0,.m 37 1,.m 38 2,.p 39 (.call 212) [.t 36,.t 37,.t 38]] (.reg [.m 40 3,.a 41 (.bin .sub) 40 1,.m 3 41])) .skip)) (.r [.m 43 0,.m 44 1,.m 45 2,.p 46 (.call 213) [.t 43,.t 44,.t 45],.m 42 46,.u 47 (.ext 0) 42,.u 48 (.ext 1) 42,.m 11 47,.m 12 48] (.seq (.r [.m 49 12,.a 50 (.bin .eql) 49 2] (.cond (.t 50) (.r [.m 51 0,.m 52 1,.m 53 2,.p 54 (.call 214) [.t 51,.t 52,.t 53]] (.r [.m 55 2,.a 56 (.bin .sub) 55 1,.m 57 11,.m 58 1,.b 59 (.bin .sub) 57 58,.b 60 (.bin .sub) 56 59,.m 11 60] (.reg [.v 12 (.int .i64 1)]))) .skip)) (.seq (.r [.m 61 8,.m 62 61,.M 63 9 62 true,.p 64 .pick [.t 62,.t 63,.F],.m 65 64,.M 66 12 65 true,.P 67 (.bin .eql) [.t 66,.i 1] 65 true,.p 68 .pick [.t 65,.t 67,.F]] (.cond (.t 68) (.r [.m 69 0,.m 70 1,.m 71 2,.p 72 (.call 215) [.t 69,.t 70,.t 71]] (.cond (.t 72) .ret .skip)) .skip)) (.seq (.seq (.par (.step 0 (.m 73 1) (.step 1 (.a 74 (.bin .gtr) 73 0) (.step 2 (.m 75 74) (.step 3 (.M 76 0 75 true) (.step 4 (.M 77 1 75 true) (.step 5 (.P 78 (.bin .sub) [.t 77,.i 1] 75 true) (.step 8 (.M 81 0 75 true) (.step 9 (.M 82 11 75 true) (.step 6 (.B 79 (.idxp 1) 76 78 75 true) (.step 7 (.U 80 (.load false 1) 79 75 true) (.step 10 (.B 83 (.idxp 1) 81 82 75 true) (.step 11 (.U 84 (.load false 1) 83 75 true) (.step 12 (.B 85 (.call 114) 80 84 75 true) (.step 13 (.U 86 (.un .not) 85 75 true) (.step 14 (.p 87 .pick [.t 75,.t 86,.F]) .done)))))))))))))))) (.cond (.t 87) (.r [.m 88 0,.m 89 1,.m 90 2,.m 91 11,.p 92 (.call 216) [.t 88,.t 89,.t 90,.t 91],.m 13 92] (.r [.m 93 13,.m 1 93] (.exit 1))) .skip)) (.r [.m 95 0,.m 96 1,.m 97 2,.m 98 11,.p 99 (.call 217) [.t 95,.t 96,.t 97,.t 98],.m 94 99,.u 100 (.ext 0) 94,.u 101 (.ext 1) 94,.m 14 100,.m 15 101] (.r [.m 102 15,.m 9 102] (.r [.m 103 14,.m 104 1,.b 105 (.bin .sub) 103 104,.m 106 2,.m 107 14,.b 108 (.bin .sub) 106 107,.m 16 105,.m 17 108] (.r [.m 109 10,.a 110 (.bin .quo) 109 8,.m 18 110] (.r [.m 111 16,.m 112 17,.b 113 (.bin .lss) 111 112] (.cond (.t 113) (.r [.m 114 16,.m 115 18,.b 116 (.bin .geq) 114 115,.m 8 116] (.r [.m 117 0,.m 118 1,.m 119 14,.m 120 3,.p 121 (.call 167) [.t 117,.t 118,.t 119,.t 120]] (.reg [.m 122 14,.a 123 (.bin .add) 122 1,.m 1 123]))) (.r [.m 124 17,.m 125 18,.b 126 (.bin .geq) 124 125,.m 8 126] (.r [.m 127 0,.m 128 14,.a 129 (.bin .add) 128 1,.m 130 2,.m 131 3,.p 132 (.call 167) [.t 127,.t 129,.t 130,.t 131]] (.reg [.m 133 14,.m 2 133]))))))))))))))))))))))
theorem ok54e : compF Tryz.prog Tryz.f167 ⟨true, false, []⟩ = some (c54, [], 134) := by kernel_rfl
theorem cutS {x y : AC} {Q : Exit → AFr → AW → Prop} {A : AFr} {W : AW} (R : AFr → AW → Prop) (h1 : awp E x (thenQ R Q) A W) (h2 : ∀ A' W', R A' W' → awp E y Q A' W') : awp E (.seq x y) Q A W := by
 rw [e_seq]
 refine awp_mono _ ?_ h1
 intro e A' W' h
 cases e with
 | normal => exact h2 _ _ h
 | _ => exact h
theorem partialIns_size (a b : Nat) : ∀ (s i : Nat) (d : Array Int), (partialIns ltInt a b s i d).1.size = d.size
 | 0, i, d => rfl
 | s + 1, i, d => by
  rw [partialIns_succ]
  split
  ·rfl
  split
  ·rfl
  rw [partialIns_size]
  unfold fixUp
  split
  ·rw [shiftUp_size _ _ _ _ _ (lr _)]
   unfold fixDown
   split
   ·rw [shiftDown_size]; simp [swp]
   ·simp [swp]
  ·unfold fixDown
   split
   ·rw [shiftDown_size]; simp [swp]
   ·simp [swp]
def pdqF (A : AFr) (r n a b lim : Nat) (wb wp : Bool) : Prop := A 0 = some (.slr r 0 n 1) ∧ A 1 = some (.int .i64 a) ∧ A 2 = some (.int .i64 b) ∧ A 3 = some (.int .i64 lim) ∧ A 8 = some (.bool wb) ∧ A 9 = some (.bool wp) ∧ A 10 = some (.int .i64 ((b - a : Nat) : Int))
theorem cle12 {a : Nat} : decide ((a : Int) ≤ 12) = decide (a ≤ 12) := by simp; omega
theorem hintEq (h : Hint) : (hintN h == 2) = decide (h = .decreasing) := by cases h <;> rfl
theorem hintEq1 (h : Hint) : (hintN h == 1) = decide (h = .increasing) := by cases h <;> rfl
theorem pdq_size : ∀ (m : Nat) (d : Array Int) (a b limit : Nat) (wb wp : Bool), b - a < m → a ≤ b → b ≤ d.size → (pdq ltInt d a b limit wb wp).size = d.size := by
 intro m
 induction m with
 | zero => intro d a b limit wb wp h; omega
 | succ m ih =>
 intro d a b limit wb wp hm hab hb
 rw [pdq]
 by_cases h12 : b - a ≤ 12
 ·rw [if_pos h12]; exact (insertionSort_holds swo_ltInt d a b hab hb).1.1
 rw [if_neg h12]
 by_cases h0 : limit = 0
 ·rw [if_pos h0]; exact (heapSort_holds swo_ltInt d a b hab hb).1.1
 rw [if_neg h0]
 obtain ⟨d2, hd2⟩ : ∃ d2, d2 = (if !wb then breakPatterns d a b else d) := ⟨_, rfl⟩
 obtain ⟨l2, hl2⟩ : ∃ l2, l2 = (if !wb then limit - 1 else limit) := ⟨_, rfl⟩
 simp only [← hd2, ← hl2]
 have gs2 : d2.size = d.size := by
  rw [hd2]; split
  ·exact (breakPatterns_holds d a b hab hb).1
  ·rfl
 obtain ⟨c, hc⟩ : ∃ c, c = choosePivot ltInt d2 a b := ⟨_, rfl⟩
 have hcr := choosePivot_holds ltInt d2 a b (by omega)
 rw [← hc] at hcr
 simp only [← hc]
 obtain ⟨d3, hd3⟩ : ∃ d3, d3 = (if c.2 = .decreasing then reverseRange d2 a b else d2) := ⟨_, rfl⟩
 obtain ⟨pv0, hpv0⟩ : ∃ pv0, pv0 = (if c.2 = .decreasing then (b - 1) - (c.1 - a) else c.1) := ⟨_, rfl⟩
 obtain ⟨hint, hhint⟩ : ∃ hint, hint = (if c.2 = .decreasing then Hint.increasing else c.2) := ⟨_, rfl⟩
 simp only [← hd3, ← hpv0, ← hhint]
 have gs3 : d3.size = d.size := by
  rw [hd3]; split
  ·rw [(reverseRange_holds d2 a b hab (by omega)).1, gs2]
  ·exact gs2
 have gpv : a ≤ pv0 ∧ pv0 < b := by rw [hpv0]; split <;> omega
 obtain ⟨pi, hpi⟩ : ∃ pi, pi = (if wb && wp && hint = .increasing then partialInsertionSort ltInt d3 a b else (d3, false)) := ⟨_, rfl⟩
 simp only [← hpi]
 have gs4 : pi.1.size = d.size := by
  rw [hpi]; split
  ·rw [partialInsertionSort, partialIns_size, gs3]
  ·exact gs3
 split
 ·exact gs4
 split
 ·obtain ⟨pe, hpe'⟩ : ∃ pe, pe = partitionEqual ltInt pi.1 a b pv0 := ⟨_, rfl⟩
  have hsp := partEqLoop_spec ltInt a b _ (a + 1) (b - 1) (swp pi.1 a pv0) (lr _) (Nat.lt_succ_self a) (by omega) (by omega) (by rw [size_swp]; omega) (fun t h1 h2 => by omega) (fun t h1 h2 => by omega)
  have hpe : partitionEqual ltInt pi.1 a b pv0 = partEqLoop ltInt a (a + 1) (b - 1) (swp pi.1 a pv0) := rfl
  rw [← hpe, ← hpe'] at hsp
  simp only [← hpe']
  have hss : pe.2.size = d.size := by rw [hsp.2.2.1.1, size_swp, gs4]
  rw [dif_pos ⟨hsp.1, hsp.2.1⟩, ih _ _ _ _ _ _ (by omega) hsp.2.1 (by omega), hss]
 ·have hsp := partition_holds ltInt swo_ltInt pi.1 a b pv0 gpv.1 gpv.2 (by omega)
  obtain ⟨pt, hpt⟩ : ∃ pt, pt = partition ltInt pi.1 a b pv0 := ⟨_, rfl⟩
  rw [← hpt] at hsp
  simp only [← hpt]
  rw [dif_pos ⟨hsp.1, hsp.2.1⟩]
  have hss : pt.2.2.size = d.size := by rw [hsp.2.2.1.1, gs4]
  obtain ⟨t1, t2, t3, _⟩ := hsp
  split
  ·have e := ih pt.2.2 a pt.1 l2 true true (by omega) t1 (by omega)
   exact (ih _ _ _ _ _ _ (by omega) (by omega) (by rw [e, hss]; exact hb)).trans (e.trans hss)
  ·have e := ih pt.2.2 (pt.1 + 1) b l2 true true (by omega) (by omega) (by omega)
   exact (ih _ _ _ _ _ _ (by omega) t1 (by rw [e, hss]; omega)).trans (e.trans hss)
theorem pdq_c (hP : PE E) (n : Nat) (hsm : n < 4294967296) : ∀ (m : Nat) (W : AW) (r a b lim : Nat) (d : Array Int), b - a < m → d.size = n → r < W.nx → a ≤ b → b ≤ n → lim < 1000 →
  ACalls E 167 [.slr r 0 n 1, .int .i64 a, .int .i64 b, .int .i64 lim] (pv W r d) fun X W' => X = .tuple [] ∧ W' = pv W r (pdq ltInt d a b lim true true) := by
 intro m
 induction m with
 | zero => intro W r a b lim d h; omega
 | succ m ih =>
 intro W r a b lim d hm hn hr hab hb hlim
 refine ACalls.of hP Tryz.func167 ok54e (by simp) fun _ hok => ?_
 simp (maxSteps:=9^9) (disch:=omega) only [c54, BS, e_seq, e_loop]
 refine alp (fun (s : Nat × Nat × Nat × Bool × Bool × Array Int) A1 W1 => A1 0 = some (.slr r 0 n 1) ∧ A1 1 = some (.int .i64 s.1) ∧ A1 2 = some (.int .i64 s.2.1) ∧ A1 3 = some (.int .i64 s.2.2.1) ∧ A1 8 = some (.bool s.2.2.2.1) ∧ A1 9 = some (.bool s.2.2.2.2.1) ∧
  W1 = pv W r s.2.2.2.2.2 ∧ s.1 ≤ s.2.1 ∧ s.2.1 ≤ n ∧ s.2.1 - s.1 ≤ b - a ∧ s.2.2.1 < 1000 ∧ s.2.2.2.2.2.size = n ∧ pdq ltInt s.2.2.2.2.2 s.1 s.2.1 s.2.2.1 s.2.2.2.1 s.2.2.2.2.1 = pdq ltInt d a b lim true true) (fun s => s.2.1 - s.1) (a, b, lim, true, true, d)
  ⟨rfl, rfl, rfl, rfl, rfl, rfl, rfl, hab, hb, lr _, hlim, hn, rfl⟩ ?_
 rintro ⟨a1, b1, l1, wb, wp, d1⟩ A1 W1 ⟨g0, g1, g2, g3, g8, g9, rfl, gab, gb, gm, gl, gs, gt⟩ _
 simp only at g1 g2 g3 g8 g9 gab gb gm gl gs gt
 rw [e_block]
 refine cutS (fun A' W' => pdqF A' r n a1 b1 l1 wb wp ∧ W' = pv W r d1) ?_ ?_
 ·simp (maxSteps:=9^9) (disch:=omega) only [BS, ↓reduceIte, nE, g1, g2, wsub]
  exact ⟨⟨g0, g1, g2, g3, g8, g9, rfl⟩, tt⟩
 rintro A2 W2 ⟨⟨q0, q1, q2, q3, q8, q9, q10⟩, rfl⟩
 refine cutS (fun A' W' => (pdqF A' r n a1 b1 l1 wb wp ∧ W' = pv W r d1) ∧ ¬ b1 - a1 ≤ 12) ?_ ?_
 ·by_cases h : b1 - a1 ≤ 12
  ·rw [pdq, if_pos h] at gt
   simp (maxSteps:=9^9) (disch:=omega) only [BX, ↓reduceIte, nE, reduceCtorEq, q0, q1, q2, q10, cle12, h, dT]
   refine (insertion_c hP W r n a1 b1 d1 gs gb (by omega) (by omega)).mono ?_
   rintro X W' ⟨rfl, rfl⟩
   simp only [BS]
   exact ⟨_, rfl, _, _, .weak weak_id, lr _, rfl, by rw [gt]⟩
  ·simp (maxSteps:=9^9) (disch:=omega) only [BX, ↓reduceIte, q10, cle12, h, dF]
   exact ⟨⟨⟨q0, q1, q2, q3, q8, q9, q10⟩, tt⟩, not_false⟩
 rintro A3 W3 ⟨⟨⟨q0, q1, q2, q3, q8, q9, q10⟩, rfl⟩, h12⟩
 rw [pdq, if_neg h12] at gt
 refine cutS (fun A' W' => (pdqF A' r n a1 b1 l1 wb wp ∧ W' = pv W r d1) ∧ ¬ l1 = 0) ?_ ?_
 ·by_cases h : l1 = 0
  ·rw [if_pos h] at gt
   simp (maxSteps:=9^9) (disch:=omega) only [BX, ↓reduceIte, nE, reduceCtorEq, q0, q1, q2, q3, eq0, h, dT]
   refine (heapSort_c hP W r n a1 b1 d1 gs (by omega) gb (by omega)).mono ?_
   rintro X W' ⟨rfl, rfl⟩
   simp only [BS]
   exact ⟨_, rfl, _, _, .weak weak_id, lr _, rfl, by rw [gt]⟩
  ·simp (maxSteps:=9^9) (disch:=omega) only [BX, ↓reduceIte, q3, eq0, h, dF]
   exact ⟨⟨⟨q0, q1, q2, q3, q8, q9, q10⟩, tt⟩, not_false⟩
 rintro A4 W4 ⟨⟨⟨q0, q1, q2, q3, q8, q9, q10⟩, rfl⟩, hl0⟩
 rw [if_neg hl0] at gt
 obtain ⟨d2, hd2⟩ : ∃ d2, d2 = (if !wb then breakPatterns d1 a1 b1 else d1) := ⟨_, rfl⟩
 obtain ⟨l2, hl2⟩ : ∃ l2, l2 = (if !wb then l1 - 1 else l1) := ⟨_, rfl⟩
 have gs2 : d2.size = n := by
  rw [hd2]; split
  ·rw [(breakPatterns_holds d1 a1 b1 gab (by omega)).1, gs]
  ·exact gs
 have gl2 : l2 < 1000 := by rw [hl2]; split <;> omega
 refine cutS (fun A' W' => pdqF A' r n a1 b1 l2 wb wp ∧ W' = pv W r d2) ?_ ?_
 ·cases wb
  ·simp only [Bool.not_false, ↓reduceIte] at hd2 hl2
   simp (maxSteps:=9^9) (disch:=omega) only [BX, ↓reduceIte, nE, reduceCtorEq, q0, q1, q2, q8, Bool.not_false]
   refine (breakPatterns_c hP W r n a1 b1 d1 gs hr (by omega) gb (by omega) (by omega)).mono ?_
   rintro X W' ⟨rfl, rfl⟩
   simp (maxSteps:=9^9) (disch:=omega) only [BS, ↓reduceIte, nE, q3, wsub1, ← hd2, ← hl2]
   exact ⟨⟨q0, q1, q2, rfl, q8, q9, q10⟩, tt⟩
  ·simp only [Bool.not_true, Bool.false_eq_true, ↓reduceIte] at hd2 hl2
   simp (maxSteps:=9^9) (disch:=omega) only [BX, ↓reduceIte, q8, Bool.not_true]
   rw [hd2, hl2]
   exact ⟨⟨q0, q1, q2, q3, q8, q9, q10⟩, rfl⟩
 rintro A5 W5 ⟨⟨q0, q1, q2, q3, q8, q9, q10⟩, rfl⟩
 simp only [← hd2, ← hl2] at gt
 obtain ⟨c, hc⟩ : ∃ c, c = choosePivot ltInt d2 a1 b1 := ⟨_, rfl⟩
 have hcr := choosePivot_holds ltInt d2 a1 b1 (by omega)
 rw [← hc] at hcr
 simp only [← hc] at gt
 refine cutS (fun A' W' => (pdqF A' r n a1 b1 l2 wb wp ∧ A' 11 = some (.int .i64 c.1) ∧ A' 12 = some (.int .i64 (hintN c.2))) ∧ W' = pv W r d2) ?_ ?_
 ·simp only [BS, BC, ↓reduceIte, nE, q0, q1, q2]
  refine (choosePivot_c hP W r n a1 b1 d2 gs2 hr (by omega) gb (by omega) (by omega)).mono ?_
  rintro X W' ⟨rfl, rfl⟩
  rw [← hc]
  simp (maxSteps:=9^9) (disch:=omega) only [BS, ↓reduceIte, nE]
  exact ⟨⟨⟨q0, q1, q2, q3, q8, q9, q10⟩, tt, tt⟩, tt⟩
 rintro A6 W6 ⟨⟨⟨q0, q1, q2, q3, q8, q9, q10⟩, q11, q12⟩, rfl⟩
 obtain ⟨d3, hd3⟩ : ∃ d3, d3 = (if c.2 = .decreasing then reverseRange d2 a1 b1 else d2) := ⟨_, rfl⟩
 obtain ⟨pv0, hpv0⟩ : ∃ pv0, pv0 = (if c.2 = .decreasing then (b1 - 1) - (c.1 - a1) else c.1) := ⟨_, rfl⟩
 obtain ⟨hint, hhint⟩ : ∃ hint, hint = (if c.2 = .decreasing then Hint.increasing else c.2) := ⟨_, rfl⟩
 simp only [← hd3, ← hpv0, ← hhint] at gt
 have gs3 : d3.size = n := by
  rw [hd3]; split
  ·rw [(reverseRange_holds d2 a1 b1 gab (by omega)).1, gs2]
  ·exact gs2
 have gpv : a1 ≤ pv0 ∧ pv0 < b1 := by rw [hpv0]; split <;> omega
 have hint2 : hint ≠ .decreasing := by rw [hhint]; split <;> simp_all
 refine cutS (fun A' W' => (pdqF A' r n a1 b1 l2 wb wp ∧ A' 11 = some (.int .i64 pv0) ∧ A' 12 = some (.int .i64 (hintN hint))) ∧ W' = pv W r d3) ?_ ?_
 ·by_cases h : c.2 = .decreasing
  ·simp only [h, ↓reduceIte] at hd3 hpv0 hhint
   simp (maxSteps:=9^9) (disch:=omega) only [BX, ↓reduceIte, nE, reduceCtorEq, q0, q1, q2, q12, hintEq, h, dT]
   refine (reverseRange_c hP W r n a1 b1 d2 gs2 gb (by omega) (by omega)).mono ?_
   rintro X W' ⟨rfl, rfl⟩
   simp (maxSteps:=9^9) (disch:=omega) only [BS, e_seq, ↓reduceIte, nE, q1, q2, q11, wsub, wsub1, ← hpv0, ← hd3]
   exact ⟨⟨⟨q0, q1, q2, q3, q8, q9, q10⟩, tt, by rw [hhint]; rfl⟩, tt⟩
  ·simp only [h, ↓reduceIte] at hd3 hpv0 hhint
   simp (maxSteps:=9^9) (disch:=omega) only [BX, ↓reduceIte, nE, q12, hintEq, h, dF]
   rw [hd3, hpv0, hhint]
   exact ⟨⟨⟨q0, q1, q2, q3, q8, q9, q10⟩, q11, rfl⟩, rfl⟩
 rintro A7 W7 ⟨⟨⟨q0, q1, q2, q3, q8, q9, q10⟩, q11, q12⟩, rfl⟩
 obtain ⟨pi, hpi⟩ : ∃ pi, pi = (if wb && wp && hint = .increasing then partialInsertionSort ltInt d3 a1 b1 else (d3, false)) := ⟨_, rfl⟩
 simp only [← hpi] at gt
 have gs4 : pi.1.size = n := by
  rw [hpi]; split
  ·rw [partialInsertionSort, partialIns_size, gs3]
  ·exact gs3
 refine cutS (fun A' W' => ((pdqF A' r n a1 b1 l2 wb wp ∧ A' 11 = some (.int .i64 pv0)) ∧ W' = pv W r pi.1) ∧ pi.2 = false) ?_ ?_
 ·by_cases h : (wb && wp && decide (hint = .increasing)) = true
  ·rw [if_pos h] at hpi
   simp only [Bool.and_eq_true, decide_eq_true_eq] at h
   obtain ⟨⟨rfl, rfl⟩, hi⟩ := h
   simp (maxSteps:=9^9) (disch:=omega) only [BX, guard_if, ↓reduceIte, nE, reduceCtorEq, q0, q1, q2, q8, q9, q12, hintEq1, hi, dT]
   refine (partialIns_c hP W r n a1 b1 d3 gs3 (by omega) gb (by omega)).mono ?_
   rintro X W' ⟨rfl, rfl⟩
   rw [← hpi]
   cases hp2 : pi.2 with
   | true =>
    rw [if_pos hp2] at gt
    simp only [BS, BC, cond_if, ↓reduceIte]
    exact ⟨_, rfl, _, _, .weak weak_id, lr _, rfl, by rw [gt]⟩
   | false =>
    simp only [BS, BC, cond_if, ↓reduceIte, nE]
    exact ⟨⟨⟨⟨q0, q1, q2, q3, q8, q9, q10⟩, q11⟩, tt⟩, tt⟩
  ·rw [if_neg h] at hpi
   have e1 : pi.1 = d3 := by rw [hpi]
   have e2 : pi.2 = false := by rw [hpi]
   rw [e1]
   cases wb
   ·simp (maxSteps:=9^9) (disch:=omega) only [BX, guard_if, ↓reduceIte, nE, q8]
    exact ⟨⟨⟨⟨q0, q1, q2, q3, q8, q9, q10⟩, q11⟩, tt⟩, e2⟩
   ·cases wp
    ·simp (maxSteps:=9^9) (disch:=omega) only [BX, guard_if, ↓reduceIte, nE, q8, q9]
     exact ⟨⟨⟨⟨q0, q1, q2, q3, q8, q9, q10⟩, q11⟩, tt⟩, e2⟩
    ·have hi : hint ≠ .increasing := fun e => h (by simp [e])
     simp (maxSteps:=9^9) (disch:=omega) only [BX, guard_if, ↓reduceIte, nE, q8, q9, q12, hintEq1, hi, dF]
     exact ⟨⟨⟨⟨q0, q1, q2, q3, q8, q9, q10⟩, q11⟩, tt⟩, e2⟩
 rintro A8 W8 ⟨⟨⟨⟨q0, q1, q2, q3, q8, q9, q10⟩, q11⟩, rfl⟩, hp2⟩
 rw [if_neg (by simp [hp2])] at gt
 obtain ⟨d4, hd4⟩ : ∃ d4, d4 = pi.1 := ⟨_, rfl⟩
 rw [← hd4] at gs4 ⊢
 simp only [← hd4] at gt
 refine cutS (fun A' W' => ((pdqF A' r n a1 b1 l2 wb wp ∧ A' 11 = some (.int .i64 pv0)) ∧ W' = pv W r d4) ∧ (decide (a1 > 0) && !ltInt d4[a1 - 1]! d4[pv0]!) = false) ?_ ?_
 ·by_cases h0 : a1 > 0
  ·have h0' : decide ((a1 : Int) > 0) = true := by simp; omega
   simp (maxSteps:=9^9) (disch:=omega) only [BZ, guard_if, ↓reduceIte, nE, reduceCtorEq, q0, q1, q11, h0', wsub1, ix, ld]
   refine (less_c hP _ _ _).mono ?_
   rintro X W' ⟨rfl, rfl⟩
   by_cases h : d4[a1 - 1]! < d4[pv0]!
   ·simp (maxSteps:=9^9) (disch:=omega) only [BS, BC, cond_if, guard_if, ↓reduceIte, nE, h, dT, Bool.not_true]
    exact ⟨⟨⟨⟨q0, q1, q2, q3, q8, q9, q10⟩, q11⟩, tt⟩, by simp [ltInt, h]⟩
   ·rw [if_pos (by simp [h0, ltInt, h])] at gt
    have hsp := partEqLoop_spec ltInt a1 b1 _ (a1 + 1) (b1 - 1) (swp d4 a1 pv0) (lr _) (Nat.lt_succ_self a1) (by omega) (by omega) (by rw [size_swp]; omega) (fun t h1 h2 => by omega) (fun t h1 h2 => by omega)
    have hpe : partitionEqual ltInt d4 a1 b1 pv0 = partEqLoop ltInt a1 (a1 + 1) (b1 - 1) (swp d4 a1 pv0) := rfl
    rw [← hpe] at hsp
    obtain ⟨pe, hpe'⟩ : ∃ pe, pe = partitionEqual ltInt d4 a1 b1 pv0 := ⟨_, rfl⟩
    rw [← hpe'] at hsp
    simp only [← hpe'] at gt
    rw [dif_pos ⟨hsp.1, hsp.2.1⟩] at gt
    have hss : pe.2.size = n := by rw [hsp.2.2.1.1, size_swp, gs4]
    simp (maxSteps:=9^9) (disch:=omega) only [BX, guard_if, ↓reduceIte, nE, reduceCtorEq, h, dF, Bool.not_false, q0, q1, q2, q11]
    refine (partitionEqual_c hP W r n a1 b1 pv0 d4 gs4 (by omega) gb (by omega) (by omega)).mono ?_
    rintro X W' ⟨rfl, rfl⟩
    rw [← hpe']
    simp only [BS, e_seq, ↓reduceIte, nE, reduceCtorEq, q0, q2, q3, q8, q9]
    exact ⟨(pe.1, b1, l2, wb, wp, pe.2), ⟨tt, rfl, rfl, rfl, rfl, rfl, rfl, hsp.2.1, gb, by simp; omega, gl2, hss, gt⟩, by simp; omega, lr _⟩
  ·have h0' : decide ((a1 : Int) > 0) = false := by simp; omega
   simp (maxSteps:=9^9) (disch:=omega) only [BX, guard_if, ↓reduceIte, nE, q1, h0']
   exact ⟨⟨⟨⟨q0, q1, q2, q3, q8, q9, q10⟩, q11⟩, tt⟩, by simp [h0]⟩
 rintro A9 W9 ⟨⟨⟨⟨q0, q1, q2, q3, q8, q9, q10⟩, q11⟩, rfl⟩, hne⟩
 rw [if_neg (by simp [hne])] at gt
 have hsp := partition_holds ltInt swo_ltInt d4 a1 b1 pv0 gpv.1 gpv.2 (by omega)
 obtain ⟨pt, hpt⟩ : ∃ pt, pt = partition ltInt d4 a1 b1 pv0 := ⟨_, rfl⟩
 rw [← hpt] at hsp
 simp only [← hpt] at gt
 rw [dif_pos ⟨hsp.1, hsp.2.1⟩] at gt
 have hss : pt.2.2.size = n := by rw [hsp.2.2.1.1, gs4]
 obtain ⟨t1, t2, t3, _⟩ := hsp
 simp only [BZ, ↓reduceIte, nE, q0, q1, q2, q11]
 refine (partition_c hP W r n a1 b1 pv0 d4 gs4 (by omega) gb (by omega) (by omega)).mono ?_
 rintro X W' ⟨rfl, rfl⟩
 rw [← hpt]
 by_cases h : pt.1 - a1 < b1 - pt.1
 ·rw [if_pos h] at gt
  simp (maxSteps:=9^9) (disch:=omega) only [BX, ↓reduceIte, nE, reduceCtorEq, q0, q1, q2, q3, q10, wsub, quo8, clt, h, dT, cge]
  refine (ih W r a1 pt.1 l2 pt.2.2 (by omega) hss hr t1 (by omega) gl2).mono ?_
  rintro X W' ⟨rfl, rfl⟩
  simp (maxSteps:=9^9) (disch:=omega) only [BS, ↓reduceIte, nE, reduceCtorEq, q0, q2, q3, wadd1]
  exact ⟨(pt.1 + 1, b1, l2, decide (pt.1 - a1 ≥ (b1 - a1) / 8), pt.2.1, pdq ltInt pt.2.2 a1 pt.1 l2 true true), ⟨tt, rfl, rfl, rfl, rfl, rfl, rfl, by simp; omega, gb, by simp; omega, gl2, by rw [pdq_size _ _ _ _ _ _ _ (Nat.lt_succ_self _) (by omega) (by omega), hss], gt⟩, by simp; omega, lr _⟩
 ·rw [if_neg h] at gt
  simp (maxSteps:=9^9) (disch:=omega) only [BX, ↓reduceIte, nE, reduceCtorEq, q0, q1, q2, q3, q10, wsub, quo8, clt, h, dF, cge, wadd1]
  refine (ih W r (pt.1 + 1) b1 l2 pt.2.2 (by omega) hss hr (by omega) gb gl2).mono ?_
  rintro X W' ⟨rfl, rfl⟩
  simp (maxSteps:=9^9) (disch:=omega) only [BS, ↓reduceIte, nE, reduceCtorEq, q0, q1, q3]
  exact ⟨(a1, pt.1, l2, decide (b1 - pt.1 ≥ (b1 - a1) / 8), pt.2.1, pdq ltInt pt.2.2 (pt.1 + 1) b1 l2 true true), ⟨tt, rfl, rfl, rfl, rfl, rfl, rfl, t1, by simp; omega, by simp; omega, gl2, by rw [pdq_size _ _ _ _ _ _ _ (Nat.lt_succ_self _) (by omega) (by omega), hss], gt⟩, by simp; omega, lr _⟩
end Go.AL.S
namespace Go.AL.S
open Go Go.AL Go.Proofs
def c46 : AC := (.r [.u 4 (.load false 1) 1,.u 5 .rangem 4] (.block 0 (.loop (.r [.u 6 .nextm 5,.u 7 (.ext 0) 6] (.seq (.w 7 0) (.block 1 (.r [.u 8 .entry 5,.u 9 (.ext 0) 8,.m 3 9] (.r [.m 10 0,.m 11 3,.b 12 .callv 10 11,.u 13 (.un .not) 12] (.cond (.t 13) .ret .skip)))))))))
theorem ok46e : compF Tryz.prog Tryz.f129 ⟨false, false, []⟩ = some (c46, [], 14) := by kernel_rfl
variable {E : Env}
abbrev En := V × V × Nat
def stamps (l : List En) : List Nat := l.map (·.2.2)
theorem sem_rangem {W : AW} {K : V → AW → Prop} {r : Nat} {es : List En} {clock : Nat} (h : W.get r = some (.map es clock)) : sem E .rangem [.map r] W K = K (.ptr W.nx 0) (W.alloc (.iter (some r) clock [] clock)) := by simp only [sem, h]
theorem sem_nextm {W : AW} {K : V → AW → Prop} {i m since last clock : Nat} {seen : List Nat} {es : List En} (h : W.get i = some (.iter (some m) since seen last)) (hm : W.get m = some (.map es clock)) :
  sem E .nextm [.ptr i 0] W K = ((seen = [] ∨ es = [] ∨ ∃ e ∈ es, e.2.2 < last) ∧ ((∀ e ∈ es, e.2.2 ∉ seen → since ≤ e.2.2) → K (.tuple [.bool false]) W) ∧
   (∀ e ∈ es, e.2.2 ∉ seen → K (.tuple [.bool true, e.1, e.2.1]) (W.put i (.iter (some m) since (seen ++ [e.2.2]) clock)))) := by simp only [sem, h, hm]
theorem sem_entry {W : AW} {K : V → AW → Prop} {i m since clock stamp : Nat} {seen : List Nat} {es : List En} {e : En} (h : W.get i = some (.iter (some m) since seen clock)) (hm : W.get m = some (.map es clock)) (hl : seen.getLast? = some stamp) (hf : (es.find? fun e => e.2.2 == stamp) = some e) :
  sem E .entry [.ptr i 0] W K = K (.tuple [e.1, e.2.1]) W := by simp [sem, h, hm, hl, hf]
structure Fresh (es : List En) (clock : Nat) : Prop where
 nodup : (stamps es).Nodup
 lt : ∀ e ∈ es, e.2.2 < clock
theorem Fresh.find {es : List En} (h : (stamps es).Nodup) {e : En} (he : e ∈ es) : (es.find? fun x => x.2.2 == e.2.2) = some e := by
 induction es with
 | nil => simp at he
 | cons x xs ih =>
  simp only [stamps, mcs, List.nodup_cons] at h
  rcases List.mem_cons.1 he with rfl | he
  ·simp
  ·have hne : (x.2.2 == e.2.2) = false := by
    simp only [beq_eq_false_iff_ne, ne_eq]
    intro heq
    exact h.1 (heq ▸ List.mem_map.2 ⟨e, he, rfl⟩)
   rw [List.find?_cons, hne]
   exact ih h.2 he
theorem perm_of_mem {α : Type} : ∀ {l m : List α}, l.Nodup → m.Nodup → (∀ x, x ∈ l ↔ x ∈ m) → l.Perm m
 | [], m, _, _, h => by
  cases m with
  | nil => exact .refl _
  | cons y m => exact absurd ((h y).2 (by simp)) (by simp)
 | x :: l, m, hl, hm, h => by
  obtain ⟨s, t, rfl⟩ := List.append_of_mem ((h x).1 (by simp))
  have hl' := List.nodup_cons.1 hl
  have hm' : (x :: (s ++ t)).Nodup := List.perm_middle.nodup_iff.1 hm
  have hm2 := List.nodup_cons.1 hm'
  refine (List.Perm.cons x (perm_of_mem hl'.2 hm2.2 fun y => ?_)).trans List.perm_middle.symm
  have hy := h y
  simp only [List.mem_cons, map'] at hy ⊢
  by_cases e : y = x
  ·subst e
   exact ⟨fun hh => absurd hh hl'.1, fun hh => absurd (by simpa using hh) hm2.1⟩
  ·constructor
   ·intro hh
    rcases hy.1 (.inr hh) with h1 | h1 | h1
    ·exact .inl h1
    ·exact absurd h1 e
    ·exact .inr h1
   ·intro hh
    rcases hy.2 (hh.elim .inl fun h1 => .inr (.inr h1)) with h1 | h1
    ·exact absurd h1 e
    ·exact h1
theorem length_le_of_sub {α : Type} : ∀ {l m : List α}, l.Nodup → (∀ x ∈ l, x ∈ m) → l.length ≤ m.length
 | [], _, _, _ => by simp
 | x :: l, m, hl, h => by
  obtain ⟨s, t, rfl⟩ := List.append_of_mem (h x (by simp))
  have hl' := List.nodup_cons.1 hl
  have := length_le_of_sub (l := l) (m := s ++ t) hl'.2 fun y hy => by
   have hyx : y ≠ x := fun e => hl'.1 (e ▸ hy)
   have := h y (List.mem_cons_of_mem _ hy)
   simp only [map', List.mem_cons] at this ⊢
   rcases this with h1 | h1 | h1
   ·exact .inl h1
   ·exact absurd h1 hyx
   ·exact .inr h1
  simp at this ⊢; omega
theorem nodup_of_stamps {l : List En} (h : (stamps l).Nodup) : l.Nodup := by
 induction l with
 | nil => exact List.nodup_nil
 | cons x l ih =>
  simp only [stamps, mcs] at h
  have h' := List.nodup_cons.1 h
  exact List.nodup_cons.2 ⟨fun hm => h'.1 (List.mem_map.2 ⟨x, hm, rfl⟩), ih h'.2⟩
theorem same_stamp {l : List En} (h : (stamps l).Nodup) {x y : En} (hx : x ∈ l) (hy : y ∈ l) (e : x.2.2 = y.2.2) : x = y := by
 have h1 := Fresh.find h hx
 have h2 := Fresh.find h hy
 rw [e] at h1
 rw [h1] at h2
 exact Option.some.inj h2
theorem keys_iter (hP : PE E) {W : AW} {y pb m clock : Nat} {es : List En} (hb : W.get pb = some (.row [.map m])) (hm : W.get m = some (.map es clock)) (hf : Fresh es clock) (hlt : m < W.nx)
  (J : List En → AW → Prop) (h0 : J [] (W.alloc (.iter (some m) clock [] clock)))
  (hJ : ∀ done W1, J done W1 → W1.get W.nx = some (.iter (some m) clock (stamps done) clock) ∧ W1.get m = some (.map es clock) ∧ W.nx ≤ W1.nx)
  (hnx : ∀ done W1, J done W1 → W.nx < W1.nx)
  (hy : ∀ done e W1, J done W1 → e ∈ es → e.2.2 ∉ stamps done → done.length < es.length → E.yield y [(W1.put W.nx (.iter (some m) clock (stamps done ++ [e.2.2]) clock)).frz e.1] (W1.put W.nx (.iter (some m) clock (stamps done ++ [e.2.2]) clock)) (fun X W2 => X = .bool true ∧ J (done ++ [e]) W2)) :
  ACalls E 129 [.yld y, .ptr pb 0] W fun X W' => X = .tuple [] ∧ ∃ done : List En, done.Perm es ∧ J done W' := by
 refine ACalls.of hP Tryz.func129 ok46e (by simp) fun _ hok => ?_
 have hl : partV [V.map m] 0 1 false = some (.map m) := rfl
 simp only [c46, BZ, ↓reduceIte, sem_load_row hb hl, sem_rangem hm, e_loop]
 refine alp (fun (done : List En) A1 W1 => A1 0 = some (.yld y) ∧ A1 5 = some (.ptr W.nx 0) ∧ J done W1 ∧ (stamps done).Nodup ∧ ∀ e ∈ done, e ∈ es) (fun done => es.length - done.length) []
  ⟨rfl, rfl, h0, List.nodup_nil, by simp⟩ ?_
 rintro done A1 W1 ⟨g0, g5, gJ, gn, gs⟩ _
 obtain ⟨k1, k2, k3⟩ := hJ _ _ gJ
 simp only [BX, ↓reduceIte, nE, g5, sem_nextm k1 k2]
 refine ⟨?_, ?_, ?_⟩
 ·cases es with
  | nil => exact .inr (.inl rfl)
  | cons e es => exact .inr (.inr ⟨e, by simp, hf.lt e (by simp)⟩)
 ·intro hall
  refine ⟨_, rfl, _, _, .weak weak_id, k3, rfl, done, ?_, gJ⟩
  refine perm_of_mem ?_ ?_ fun x => ⟨gs x, fun hx => ?_⟩
  ·exact nodup_of_stamps gn
  ·exact nodup_of_stamps hf.nodup
  ·by_cases hm' : x.2.2 ∈ stamps done
   ·obtain ⟨x', h1, h2⟩ := List.mem_map.1 hm'
    rwa [← same_stamp hf.nodup (gs x' h1) hx h2]
   ·have := hall x hx hm'
    have := hf.lt x hx
    omega
 ·intro e he hne
  have hlen : done.length < es.length := by
   have h1 := length_le_of_sub (l := done ++ [e]) (m := es) (nodup_of_stamps (by
     simp only [stamps, mpp, mcs, List.map_nil]
     exact List.nodup_append.2 ⟨gn, by simp, fun a ha b hb => by
      rw [List.mem_singleton.1 hb]
      exact fun e' => hne (e' ▸ ha)⟩)) (fun x hx => by
      rcases List.mem_append.1 hx with hx | hx
      ·exact gs x hx
      ·rw [List.mem_singleton.1 hx]; exact he)
   simp at h1; omega
  have hne' : m ≠ W.nx := by omega
  have j1 : (W1.put W.nx (.iter (some m) clock (stamps done ++ [e.2.2]) clock)).get W.nx = some (.iter (some m) clock (stamps done ++ [e.2.2]) clock) := by simp [AW.put]
  have j2 : (W1.put W.nx (.iter (some m) clock (stamps done ++ [e.2.2]) clock)).get m = some (.map es clock) := by simp [AW.put, hne', k2]
  have j3 : (stamps done ++ [e.2.2]).getLast? = some e.2.2 := by simp
  rw [sem_entry j1 j2 j3 (Fresh.find hf.nodup he)]
  simp only [BZ, ↓reduceIte, nE, reduceCtorEq, g0, sem_yield]
  refine E.yieldMono _ _ _ _ _ ?_ (hy done e W1 gJ he hne hlen)
  rintro X W2 ⟨rfl, gJ2⟩
  obtain ⟨k4, k5, k6⟩ := hJ _ _ gJ2
  simp only [BS, BC, cond_if, ↓reduceIte, nE, reduceCtorEq, g0, g5, Bool.not_true]
  refine ⟨done ++ [e], ⟨tt, tt, gJ2, ?_, ?_⟩, ?_, ?_⟩
  ·simp only [stamps, mpp, mcs, List.map_nil]
   exact List.nodup_append.2 ⟨gn, by simp, fun a ha b hb => by
    rw [List.mem_singleton.1 hb]
    exact fun e' => hne (e' ▸ ha)⟩
  ·intro x hx
   rcases List.mem_append.1 hx with hx | hx
   ·exact gs x hx
   ·rw [List.mem_singleton.1 hx]; exact he
  ·have := hlen
   simp; omega
  ·have := (hJ _ _ gJ2).2.2
   have h7 : W.nx < W2.nx := hnx _ _ gJ2
   show W.nx + 1 ≤ W2.nx; omega
def c53 : AC := (.r [.u 2 .box 0,.v 4 (.nilsl)] (.seq (.r [.m 6 1] (.block 0 (.rangef (.t 6) [7] (.reg [.m 5 7]) (.block 1 (.reg [.u 8 (.load false 1) 2,.m 9 5,.u 10 (.bslice 1 1 (.int .u16 0) [0]) 9,.b 11 (.appendx 1 2 [.int .u16 0]) 8 10,⟨none,.store 1, [.t 2,.t 11], none⟩]))))) (.r [.u 12 (.load false 1) 2,.m 4 12] .ret)))
theorem ok53e : compF Tryz.prog Tryz.f166 ⟨true, false, []⟩ = some (c53, [.tmp 4], 13) := by kernel_rfl
def c44 : AC := (.r [.v 2 (.nilsl)] (.r [.m 3 0,.p 4 (.call 166) [.c (.nilsl),.t 3],.m 2 4] .ret))
theorem ok44e : compF Tryz.prog Tryz.f127 ⟨true, false, []⟩ = some (c44, [.tmp 2], 5) := by kernel_rfl
theorem alloc_lt {W : AW} {o : AObj} {x : Nat} (h : x < W.nx) : (W.alloc o).get x = W.get x := by simp [AW.alloc]; omega
theorem sem_bslice1 {W : AW} {K : V → AW → Prop} {k : IntKind} {n : Int} {z : V} (hz : z.cells.length = 1) : sem E (.bslice 1 1 z [0]) [.int k n] W K = K (.sl 1 true [.int k n]) W := by
 have h1 : (V.int k n).cells.length = 1 := rfl
 simp [sem, rsem, tsem, hz, fillE, h1]
theorem sem_appx_nil {W : AW} {K : V → AW → Prop} {by' : Nat} {z : List V} {v : V} (h : by' ≤ 2 ^ 46) : sem E (.appendx 1 by' z) [.nilsl, .sl 1 true [v]] W K = K (.slr W.nx 0 1 1) (W.alloc (.vec 1 v.cells)) := by
 simp [sem, elemsV, h]
theorem sem_appx_slr {W : AW} {K : V → AW → Prop} {by' r len : Nat} {z cells : List V} {v : V} (hg : W.get r = some (.vec 1 cells)) (hl : cells.length = len) (hv : v.cells.all V.one = true) (h : (len + 1) * by' ≤ 2 ^ 46) :
  sem E (.appendx 1 by' z) [.slr r 0 len 1, .sl 1 true [v]] W K = K (.slr W.nx 0 (len + 1) 1) (W.move r (.vec 1 (cells ++ v.cells))) := by
 have ht : cells.take len = cells := List.take_of_length_le (by omega)
 simp only [sem, elemsV, hg]
 simp [hl, hv, h, ht]
theorem e_endQ {r : Nat} {K : V → AW → Prop} {A : AFr} {W : AW} : endQ r K .normal A W = (W.get r = some (.loop .busy none) ∧ K (.bool true) (W.put r (.loop .ready none))) := id rfl
theorem e_puts1 {A : AFr} {p : Nat} {v : V} : A.puts [p] [v] = A.put p v := id rfl
theorem put_at {W : AW} {r : Nat} {o : AObj} : (W.put r o).get r = some o := by simp [AW.put]
theorem put_ne {W : AW} {r x : Nat} {o : AObj} (h : x ≠ r) : (W.put r o).get x = W.get x := by simp [AW.put, h]
theorem alloc_at {W : AW} {o : AObj} : (W.alloc o).get W.nx = some o := by simp [AW.alloc]
theorem move_ne {W : AW} {r x : Nat} {o : AObj} (h : x ≠ r) (h' : x ≠ W.nx) : (W.move r o).get x = W.get x := by simp [AW.move, h, h']
theorem move_at {W : AW} {r : Nat} {o : AObj} : (W.move r o).get W.nx = some o := by simp [AW.move]
theorem move_nx {W : AW} {r : Nat} {o : AObj} : (W.move r o).nx = W.nx + 1 := id rfl
theorem put_nx {W : AW} {r : Nat} {o : AObj} : (W.put r o).nx = W.nx := id rfl
theorem alloc_nx {W : AW} {o : AObj} : (W.alloc o).nx = W.nx + 1 := id rfl
theorem collect_c (hP : PE E) {W : AW} {pb m clock : Nat} {es : List En} (hb : W.get pb = some (.row [.map m])) (hm : W.get m = some (.map es clock)) (hf : Fresh es clock) (hpb : pb < W.nx) (hmlt : m < W.nx)
  (hk : ∀ e ∈ es, ∃ n, e.1 = .int .u16 n) (hsz : es.length < 2 ^ 40) :
  ACalls E 166 [.nilsl, .fn (.func 129) [] [.ptr pb 0]] W fun X W' => ∃ done : List En, done.Perm es ∧ (∀ x, x < W.nx → W'.get x = W.get x) ∧ W.nx ≤ W'.nx ∧
   ((done = [] ∧ X = .nilsl) ∨ ∃ r, (W.nx ≤ r ∧ done ≠ []) ∧ r < W'.nx ∧ X = .slr r 0 done.length 1 ∧ W'.get r = some (.vec 1 (done.map (·.1)))) := by
 refine ACalls.of hP Tryz.func166 ok53e (by simp) fun _ hok => ?_
 simp only [c53, BZ, ↓reduceIte, nE, awp_rangef']
 intro E' eP eG ey _
 have hP' : E'.P = Tryz.prog := eP.trans hP
 have hbox : ((W.alloc (.row [.nilsl])).alloc (.loop .ready none)).get pb = some (.row [.map m]) := by rw [alloc_lt (by simp [AW.alloc]; omega), alloc_lt hpb, hb]
 have hmap : ((W.alloc (.row [.nilsl])).alloc (.loop .ready none)).get m = some (.map es clock) := by rw [alloc_lt (by simp [AW.alloc]; omega), alloc_lt hmlt, hm]
 refine (keys_iter (E := E') hP' (y := W.nx + 1) hbox hmap hf (by simp [AW.alloc]; omega) (fun done W' => ∃ h, W'.get W.nx = some (.row [h]) ∧ ((done = [] ∧ h = .nilsl) ∨ ∃ r, (W.nx + 3 ≤ r ∧ done ≠ []) ∧ r < W'.nx ∧ h = .slr r 0 done.length 1 ∧ W'.get r = some (.vec 1 (done.map (·.1)))) ∧
  W'.get (W.nx + 1) = some (.loop .ready none) ∧ W'.get (W.nx + 2) = some (.iter (some m) clock (stamps done) clock) ∧ (∀ x, x < W.nx → W'.get x = W.get x) ∧ W.nx + 3 ≤ W'.nx) ?_ ?_ ?_ ?_).mono ?_
 ·refine ⟨.nilsl, ?_, .inl ⟨rfl, rfl⟩, ?_, ?_, ?_, ?_⟩
  ·simp [AW.alloc]; omega
  ·simp [AW.alloc]
  ·simp [AW.alloc, stamps]
  ·intro x hx
   rw [alloc_lt (by simp [AW.alloc]; omega), alloc_lt (by simp [AW.alloc]; omega), alloc_lt hx]
  ·simp [AW.alloc]
 ·rintro done W1 ⟨h, b1, b2, b3, b4, b5, b6⟩
  exact ⟨b4, by rw [b5 m hmlt, hm], by simp only [alloc_nx]; omega⟩
 ·rintro done W1 ⟨h, b1, b2, b3, b4, b5, b6⟩
  simp only [alloc_nx]; omega
 ·rintro done e W1 ⟨h, b1, b2, b3, b4, b5, b6⟩ he hne hlen
  obtain ⟨kv, hkv⟩ := hk e he
  rw [hkv, frz_int]
  apply ey
  have d1 : W.nx ≠ W.nx + 1 + 1 := by omega
  have d2 : W.nx + 1 ≠ W.nx + 1 + 1 := by omega
  have d3 : W.nx ≠ W.nx + 1 := by omega
  have d4 : W.nx + 1 + 1 ≠ W.nx + 1 := by omega
  have d5 : W.nx + 1 + 1 ≠ W.nx := by omega
  have d6 : W.nx + 1 ≠ W.nx := by omega
  simp only [alloc_nx]
  refine ⟨by rw [put_ne d2]; exact b3, rfl, ?_⟩
  have hg3 : ((W1.put (W.nx + 1 + 1) (.iter (some m) clock (stamps done ++ [e.2.2]) clock)).put (W.nx + 1) (.loop .busy none)).get W.nx = some (.row [h]) := by rw [put_ne d3, put_ne d1]; exact b1
  have hl : partV [h] 0 1 false = some h := rfl
  have hst : ∀ (l : List En), stamps (l ++ [e]) = stamps l ++ [e.2.2] := fun l => by simp [stamps]
  simp only [BS, ↓reduceIte, nE, e_puts1]
  refine ⟨by rw [put_ne d2]; exact b3, ?_⟩
  have hv1 : (V.int .u16 kv).cells.all V.one = true := rfl
  have hz : (V.int .u16 0).cells.length = 1 := rfl
  rcases b2 with ⟨rfl, rfl⟩ | ⟨r, ⟨r1, rne⟩, r2, rfl, r3⟩
  ·have hst2 : (((W1.put (W.nx + 1 + 1) (.iter (some m) clock (stamps [] ++ [e.2.2]) clock)).put (W.nx + 1) (.loop .busy none)).alloc (.vec 1 (V.int .u16 kv).cells)).get W.nx = some (.row [.nilsl]) := by rw [alloc_lt (by simp only [put_nx]; omega)]; exact hg3
   have c1 : (V.slr W1.nx 0 1 1).cells.length = 1 := rfl
   have c2 : (V.slr W1.nx 0 1 1).cells.all V.one = true := rfl
   simp only [BS, ↓reduceIte, nE, e_endQ, sem_load_row hg3 hl, sem_bslice1 hz, sem_appx_nil (by' := 2) (by decide), put_nx, sem_store_row (off := 0) (s := 1) hst2 c1 c2 (by simp)]
   refine ⟨?_, tt, .slr W1.nx 0 1 1, ?_, .inr ⟨W1.nx, ⟨by omega, by simp⟩, ?_, by simp, ?_⟩, ?_, ?_, ?_, ?_⟩
   ·rw [put_ne d6, alloc_lt (by simp only [put_nx]; omega), put_at]
   ·rw [put_ne d3, put_at]; rfl
   ·simp only [put_nx, alloc_nx]; omega
   ·rw [put_ne (by omega), put_ne (by omega)]
    have : ((W1.put (W.nx + 1 + 1) (.iter (some m) clock (stamps [] ++ [e.2.2]) clock)).put (W.nx + 1) (.loop .busy none)).nx = W1.nx := rfl
    rw [← this, alloc_at]; simp [hkv, V.cells]
   ·rw [put_at]
   ·rw [put_ne d4, put_ne d5, alloc_lt (by simp only [put_nx]; omega), put_ne d4, put_at, hst]
   ·intro x hx
    rw [put_ne (by omega), put_ne (by omega), alloc_lt (by simp only [put_nx]; omega), put_ne (by omega), put_ne (by omega)]; exact b5 x hx
   ·simp only [put_nx, alloc_nx]; omega
  ·have hgr : ((W1.put (W.nx + 1 + 1) (.iter (some m) clock (stamps done ++ [e.2.2]) clock)).put (W.nx + 1) (.loop .busy none)).get r = some (.vec 1 (done.map (·.1))) := by rw [put_ne (by omega), put_ne (by omega)]; exact r3
   have hst2 : (((W1.put (W.nx + 1 + 1) (.iter (some m) clock (stamps done ++ [e.2.2]) clock)).put (W.nx + 1) (.loop .busy none)).move r (.vec 1 (done.map (·.1) ++ (V.int .u16 kv).cells))).get W.nx = some (.row [.slr r 0 done.length 1]) := by rw [move_ne (by omega) (by simp only [put_nx]; omega)]; exact hg3
   have c1 : (V.slr W1.nx 0 (done.length + 1) 1).cells.length = 1 := rfl
   have c2 : (V.slr W1.nx 0 (done.length + 1) 1).cells.all V.one = true := rfl
   simp only [BS, ↓reduceIte, nE, e_endQ, sem_load_row hg3 hl, sem_bslice1 hz, sem_appx_slr (by' := 2) (len := done.length) hgr (by simp) hv1 (by omega), put_nx, sem_store_row (off := 0) (s := 1) hst2 c1 c2 (by simp)]
   refine ⟨?_, tt, .slr W1.nx 0 (done.length + 1) 1, ?_, .inr ⟨W1.nx, ⟨by omega, by simp⟩, ?_, by simp, ?_⟩, ?_, ?_, ?_, ?_⟩
   ·rw [put_ne d6, move_ne (by omega) (by simp only [put_nx]; omega), put_at]
   ·rw [put_ne d3, put_at]; rfl
   ·simp only [put_nx, move_nx]; omega
   ·rw [put_ne (by omega), put_ne (by omega)]
    have : ((W1.put (W.nx + 1 + 1) (.iter (some m) clock (stamps done ++ [e.2.2]) clock)).put (W.nx + 1) (.loop .busy none)).nx = W1.nx := rfl
    rw [← this, move_at]; simp [hkv, V.cells]
   ·rw [put_at]
   ·rw [put_ne d4, put_ne d5, move_ne (by omega) (by simp only [put_nx]; omega), put_ne d4, put_at, hst]
   ·intro x hx
    rw [put_ne (by omega), put_ne (by omega), move_ne (by omega) (by simp only [put_nx]; omega), put_ne (by omega), put_ne (by omega)]; exact b5 x hx
   ·simp only [put_nx, move_nx]; omega
 ·rintro X W' ⟨rfl, done, hperm, h, b1, b2, b3, b4, b5, b6⟩
  have b3' : W'.get (W.alloc (.row V.nilsl.cells)).nx = some (.loop .ready none) := b3
  have hg : (W'.put (W.nx + 1) (.loop .exhausted none)).get W.nx = some (.row [h]) := by rw [put_ne (by omega)]; exact b1
  have hl : partV [h] 0 1 false = some h := rfl
  unfold doneQ
  rw [b3']
  simp only [BZ, ↓reduceIte, nE, alloc_nx, sem_load_row hg hl]
  have hfr : (W'.put (W.nx + 1) (.loop .exhausted none)).frz h = h := by
   rcases b2 with ⟨_, rfl⟩ | ⟨r, ⟨r1, rne⟩, r2, rfl, r3⟩
   ·rfl
   ·have : (W'.put (W.nx + 1) (.loop .exhausted none)).get r = some (.vec 1 (done.map (·.1))) := by rw [put_ne (by omega)]; exact r3
    simp [AW.frz]
  rw [hfr]
  refine ⟨_, rfl, h, _, .weak weak_id, by rw [put_nx]; omega, done, hperm, ?_, by rw [put_nx]; omega, ?_⟩
  ·intro x hx
   rw [put_ne (by omega)]; exact b5 x hx
  ·rcases b2 with ⟨h1, h2⟩ | ⟨r, ⟨r1, rne⟩, r2, h3, r3⟩
   ·exact .inl ⟨h1, h2⟩
   ·exact .inr ⟨r, ⟨by omega, rne⟩, by rw [put_nx]; exact r2, h3, by rw [put_ne (by omega)]; exact r3⟩
open Go Go.AL Go.Proofs Go.Sort
def c45 : AC := (.r [.m 3 0,.u 4 (.len 1 0) 3,.m 2 4] (.reg [.m 5 0,.m 6 2,.m 7 2,.u 8 (.conv .u64) 7,.u 9 (.call 141) 8,.p 10 (.call 167) [.t 5,.i 0,.t 6,.t 9]]))
theorem ok45e : compF Tryz.prog Tryz.f128 ⟨true, false, []⟩ = some (c45, [], 11) := by kernel_rfl
theorem sort_c (hP : PE E) (W : AW) (r n : Nat) (d : Array Int) (hn : d.size = n) (hr : r < W.nx) (hsm : n < 4294967296) :
  ACalls E 128 [.slr r 0 n 1] (pv W r d) fun X W' => X = .tuple [] ∧ W' = pv W r (sort ltInt d) := by
 refine ACalls.of hP Tryz.func128 ok45e (by simp) fun _ hok => ?_
 have hb : bitsLen n ≤ 32 := (bitsLen_le_iff n 32).2 (by omega)
 simp (maxSteps:=9^9) (disch:=omega) only [c45, BZ, ↓reduceIte, nE, reduceCtorEq, un]
 refine (len_c hP _ n hsm).mono ?_
 rintro X W' ⟨rfl, rfl⟩
 simp only [BS, BC, ↓reduceIte, nE]
 refine (pdq_c hP n hsm (n + 1) W r 0 n (bitsLen n) d (by omega) hn hr (Nat.zero_le _) (lr _) (by omega)).mono ?_
 rintro X W' ⟨rfl, rfl⟩
 simp only [BS]
 exact ⟨_, rfl, _, _, .weak weak_id, lr _, rfl, by rw [sort, hn]⟩
def c34 : AC := (.r [.v 2 (.nilsl)] (.r [.m 4 0,.u 5 (.call 127) 4,.m 3 5] (.r [.m 6 3,.u 7 (.call 128) 6] (.r [.m 8 3,.m 2 8] .ret))))
theorem ok34e : compF Tryz.prog Tryz.f102 ⟨true, false, []⟩ = some (c34, [.tmp 2], 9) := by kernel_rfl
theorem collect44_c (hP : PE E) {W : AW} {pb m clock : Nat} {es : List En} (hb : W.get pb = some (.row [.map m])) (hm : W.get m = some (.map es clock)) (hf : Fresh es clock) (hpb : pb < W.nx) (hmlt : m < W.nx)
  (hk : ∀ e ∈ es, ∃ n, e.1 = .int .u16 n) (hsz : es.length < 2 ^ 40) :
  ACalls E 127 [.fn (.func 129) [] [.ptr pb 0]] W fun X W' => ∃ done : List En, done.Perm es ∧ (∀ x, x < W.nx → W'.get x = W.get x) ∧ W.nx ≤ W'.nx ∧
   ((done = [] ∧ X = .nilsl) ∨ ∃ r, (W.nx ≤ r ∧ done ≠ []) ∧ r < W'.nx ∧ X = .slr r 0 done.length 1 ∧ W'.get r = some (.vec 1 (done.map (·.1)))) := by
 refine ACalls.of hP Tryz.func127 ok44e (by simp) fun _ hok => ?_
 simp only [c44, BZ, ↓reduceIte, reduceCtorEq]
 refine (collect_c hP hb hm hf hpb hmlt hk hsz).mono ?_
 rintro X W' ⟨done, h1, h2, h3, h4⟩
 have hfr : W'.frz X = X := by rcases h4 with ⟨_, rfl⟩ | ⟨r, _, _, rfl, _⟩ <;> rfl
 simp only [BS, BC, ↓reduceIte, hfr]
 exact ⟨_, rfl, _, _, .weak weak_id, h3, done, h1, h2, h3, h4⟩
theorem sort_perm_eq {l l' : List Int} (h : l.Perm l') : (sort ltInt l.toArray).toList = (sort ltInt l'.toArray).toList := by
 rw [sortInt, sortInt]
 have a1 := List.pairwise_mergeSort (le := fun x y : Int => decide (x ≤ y)) (by simp; omega) (by simp; omega) l
 have a2 := List.pairwise_mergeSort (le := fun x y : Int => decide (x ≤ y)) (by simp; omega) (by simp; omega) l'
 have p : (l.mergeSort fun x y => decide (x ≤ y)).Perm (l'.mergeSort fun x y => decide (x ≤ y)) := (List.mergeSort_perm l _).trans (h.trans (List.mergeSort_perm l' _).symm)
 refine p.eq_of_pairwise ?_ a1 a2
 intro x y _ _ h1 h2
 simp at h1 h2; omega
theorem insertion_nil (hP : PE E) (W : AW) : ACalls E 210 [.nilsl, .int .i64 0, .int .i64 0] W fun X W' => X = .tuple [] ∧ W' = W := by
 refine ACalls.of hP Tryz.func210 ok81e (by simp) fun _ hok => ?_
 have h1 : IntKind.i64.wrap (0 + 1) = 1 := rfl
 have h2 : decide ((1 : Int) < 0) = false := by decide
 simp only [c81, BZ, ↓reduceIte, h1, e_loop]
 refine alp (fun (s : Unit) A1 W1 => A1 2 = some (.int .i64 0) ∧ A1 6 = some (.int .i64 1) ∧ W1 = W) (fun s => 0) ()
  ⟨rfl, rfl, rfl⟩ ?_
 rintro _ A1 W1 ⟨g2, g6, rfl⟩ _
 simp only [BX, ↓reduceIte, nE, g2, g6, h2]
 exact ⟨_, rfl, _, _, .weak weak_id, lr _, rfl, rfl⟩
theorem pdq_nil (hP : PE E) (W : AW) (lim : Nat) : ACalls E 167 [.nilsl, .int .i64 0, .int .i64 0, .int .i64 lim] W fun X W' => X = .tuple [] ∧ W' = W := by
 refine ACalls.of hP Tryz.func167 ok54e (by simp) fun _ hok => ?_
 have h1 : IntKind.i64.wrap (0 - 0) = 0 := rfl
 have h2 : decide ((0 : Int) ≤ 12) = true := by decide
 simp only [c54, BS, e_seq, e_loop]
 refine alp (fun (s : Unit) A1 W1 => A1 0 = some .nilsl ∧ A1 1 = some (.int .i64 0) ∧ A1 2 = some (.int .i64 0) ∧ W1 = W) (fun s => 0) ()
  ⟨rfl, rfl, rfl, rfl⟩ ?_
 rintro _ A1 W1 ⟨g0, g1, g2, rfl⟩ _
 simp only [BX, ↓reduceIte, nE, reduceCtorEq, g0, g1, g2, h1, h2]
 refine (insertion_nil hP _).mono ?_
 rintro X W' ⟨rfl, rfl⟩
 simp only [BS]
 exact ⟨_, rfl, _, _, .weak weak_id, lr _, rfl, rfl⟩
theorem sort_nil (hP : PE E) (W : AW) : ACalls E 128 [.nilsl] W fun X W' => X = .tuple [] ∧ W' = W := by
 refine ACalls.of hP Tryz.func128 ok45e (by simp) fun _ hok => ?_
 have h1 : IntKind.u64.wrap 0 = ((0 : Nat) : Int) := rfl
 simp only [c45, BZ, ↓reduceIte, nE, reduceCtorEq, h1]
 refine (len_c hP _ 0 (by decide)).mono ?_
 rintro X W' ⟨rfl, rfl⟩
 simp only [BS, BC, ↓reduceIte, nE]
 refine (pdq_nil hP _ _).mono ?_
 rintro X W' ⟨rfl, rfl⟩
 simp only [BS]
 exact ⟨_, rfl, _, _, .weak weak_id, lr _, rfl, rfl⟩
theorem chunks1 : ∀ (l : List V), chunks 1 l.length l = l
 | [] => rfl
 | x :: l => by
  show _ :: chunks 1 l.length ((x :: l).drop 1) = _
  rw [List.drop_succ_cons, List.drop_zero, chunks1 l]; rfl
def sortedV (l : List Int) : V := if l = [] then .nilsl else .sl 1 false ((sort ltInt l.toArray).toList.map (V.int .u16))
theorem one_ints (l : List Int) : (l.map (V.int .u16)).all V.one = true := by
 induction l with
 | nil => rfl
 | cons x l ih => simp [V.one, ih]
theorem sort_size (l : List Int) : (sort ltInt l.toArray).size = l.length := by
 have := (sort_sorts ltInt swo_ltInt l.toArray).1.1
 simpa using this
theorem sorted_c (hP : PE E) {W : AW} {pb m clock : Nat} {es : List En} (key : En → Int) (hb : W.get pb = some (.row [.map m])) (hm : W.get m = some (.map es clock)) (hf : Fresh es clock) (hpb : pb < W.nx) (hmlt : m < W.nx)
  (hk : ∀ e ∈ es, e.1 = .int .u16 (key e)) (hsz : es.length < 4294967296) :
  ACalls E 102 [.fn (.func 129) [] [.ptr pb 0]] W fun X W' => X = sortedV (es.map key) ∧ W' = W := by
 refine ACalls.of hP Tryz.func102 ok34e (by simp) fun _ hok => ?_
 simp only [c34, BZ, ↓reduceIte, reduceCtorEq]
 refine (collect44_c hP hb hm hf hpb hmlt (fun e he => ⟨_, hk e he⟩) (by omega)).mono ?_
 rintro X W' ⟨done, h1, h2, h3, h4⟩
 rcases h4 with ⟨rfl, rfl⟩ | ⟨r, ⟨hr, hne⟩, hrn, rfl, hg⟩
 ·obtain rfl : es = [] := h1.symm.eq_nil
  simp only [BZ, ↓reduceIte]
  refine (sort_nil hP _).mono ?_
  rintro X W'' ⟨rfl, rfl⟩
  simp only [BZ, ↓reduceIte, nE]
  exact ⟨_, rfl, _, W, .weak (weak_back hok rfl h2), lr _, rfl, rfl⟩
 ·have hlen : done.length = es.length := h1.length_eq
  have hkd : done.map (·.1) = cellsI (done.map key).toArray := by
   simp only [cellsI, List.map_map]
   refine List.map_congr_left fun e he => ?_
   exact hk e (h1.mem_iff.1 he)
  have hsd : (done.map key).toArray.size = done.length := by simp
  rw [hkd] at hg
  have hpv := pv_self hg
  simp only [BZ, ↓reduceIte]
  rw [← hpv]
  refine (sort_c hP W' r done.length (done.map key).toArray hsd hrn (by omega)).mono ?_
  rintro X W'' ⟨rfl, rfl⟩
  simp only [BZ, ↓reduceIte, nE]
  obtain ⟨zs, hzs⟩ : ∃ zs, zs = sort ltInt (done.map key).toArray := ⟨_, rfl⟩
  have hzl : zs.size = done.length := by rw [hzs, sort_size]; simp
  rw [← hzs]
  have hcl : (cellsI zs).length = done.length := by rw [cellsI_len, hzl]
  have hpos : 0 < done.length := List.length_pos_iff.2 hne
  have hch : chunks 1 done.length (cellsI zs) = cellsI zs := by rw [← hcl]; exact chunks1 _
  have hX : V.sl 1 false (cellsI zs) = sortedV (es.map key) := by
   have : es.map key ≠ [] := by
    intro e
    have := congrArg List.length e
    simp at this
    subst this
    simp at hlen
    exact hne hlen
   rw [sortedV, if_neg this, cellsI, hzs, sort_perm_eq (h1.map key)]
  refine ⟨_, rfl, .sl 1 false (cellsI zs), W, ?_, lr _, hX, rfl⟩
  rw [← hch]
  refine .frz pv_get (by rw [hcl]; omega) hpos (by decide) (one_ints _) ?_
  refine weak_back hok (by rw [hch]; exact bel_ints _ _) ?_
  intro x hx
  have : x ≠ r := by omega
  simp only [AW.drop, pv, AW.put, this, ↓reduceIte]
  exact h2 x hx
end Go.AL.S
namespace Go.AL.S
open Go Go.AL Go.Proofs
def c39 : AC := (.r [.v 2 (.nilsl)] (.seq (.r [.m 3 0,.p 4 (.eqn false 1) [.t 3,.c (.nilsl)]] (.cond (.t 4) (.r [.v 2 (.nilsl)] .ret) .skip)) (.r [.p 5 (.bslice 1 0 (.int .u16 0) []) [],.m 6 0,.b 7 (.append 1 2) 5 6,.m 2 7] .ret)))
theorem ok39e : compF Tryz.prog Tryz.f47 ⟨false, false, []⟩ = some (c39, [.tmp 2], 8) := by kernel_rfl
def c32 : AC := (.r [.v 2 (.nilsl)] (.seq (.r [.m 3 0,.p 4 (.eqn false 1) [.t 3,.c (.nilsl)]] (.cond (.t 4) (.r [.v 2 (.nilsl)] .ret) .skip)) (.r [.p 5 (.bslice 3 0 (.agg [.bool false,.int .u8 0,.int .u16 0]) []) [],.m 6 0,.b 7 (.append 3 4) 5 6,.m 2 7] .ret)))
theorem ok32e : compF Tryz.prog Tryz.f67 ⟨false, false, []⟩ = some (c32, [.tmp 2], 8) := by kernel_rfl
def c28 : AC := (.r [.v 2 (.nilsl)] (.seq (.r [.m 5 0,.u 6 (.len 1 0) 5,.v 7 (.int .i64 0)] (.block 0 (.loop (.r [.b 8 (.bin .lss) 7 6] (.seq (.w 8 0) (.seq (.block 1 (.r [.b 9 (.idxp 1) 5 7,.u 10 (.load false 1) 9,.m 4 10] (.reg [.m 11 2,.m 12 4,.u 13 (.call 47) 12,.u 14 (.bslice 1 1 (.nilsl) [0]) 13,.b 15 (.append 1 24) 11 14,.m 2 15]))) (.reg [.a 16 (.bin .add) 7 1,.m 7 16]))))))) (.r [.m 17 2,.m 2 17] .ret)))
theorem ok28e : compF Tryz.prog Tryz.f69 ⟨false, false, []⟩ = some (c28, [.tmp 2], 18) := by kernel_rfl
def c36 : AC := (.r [.u 1 .box 0,.p 2 (.alloc [.int .u16 0,.int .u8 0,.nilsl,.nilsl,.int .u8 0]) []] (.seq (.par (.step 0 (.u 3 (.fld 2) 1) (.step 3 (.u 6 (.fld 3) 1) (.step 1 (.u 4 (.load false 1) 3) (.step 2 (.u 5 (.pcall 67) 4) (.step 4 (.u 7 (.load false 1) 6) (.step 6 (.u 9 (.fld 2) 1) (.step 5 (.u 8 (.pcall 69) 7) (.step 7 ⟨none,.store 1, [.t 9,.t 5], none⟩ (.step 8 (.u 10 (.fld 3) 1) (.step 9 ⟨none,.store 1, [.t 10,.t 8], none⟩ .done))))))))))) (.r [.u 11 (.load true 5) 1,⟨none,.store 5, [.t 2,.t 11], none⟩] .ret)))
theorem ok36e : compF Tryz.prog Tryz.f71 ⟨false, false, []⟩ = some (c36, [.cell 2 true 5], 12) := by kernel_rfl
variable {E : Env}
def isS (s : Nat) (v : V) (xs : List V) : Prop := (v = .nilsl ∧ xs = []) ∨ (v = .slz ∧ xs = []) ∨ ∃ f, v = .sl s f xs
theorem isS.nil {s : Nat} : isS s .nilsl [] := .inl ⟨rfl, rfl⟩
theorem isS.mk {s : Nat} {f : Bool} {xs : List V} : isS s (.sl s f xs) xs := .inr (.inr ⟨f, rfl⟩)
def cloneV (s : Nat) : V → V
 | .slz => .sl s true []
 | .sl _ _ [] => .sl s true []
 | .sl _ _ xs => .sl s false xs
 | v => v
theorem sem_bslice0 {W : AW} {K : V → AW → Prop} {s : Nat} {z : V} (hz : z.cells.length = s) : sem E (.bslice s 0 z []) [] W K = K (.sl s true []) W := by
 simp [sem, rsem, tsem, hz, fillE]
theorem eqn_nil {W : AW} {K : V → AW → Prop} : sem E (.eqn false 1) [.nilsl, .nilsl] W K = K (.bool true) W := by simp [sem, rsem, tsem, eqNil]
theorem eqn_sl {W : AW} {K : V → AW → Prop} {s : Nat} {f : Bool} {xs : List V} : sem E (.eqn false 1) [.sl s f xs, .nilsl] W K = K (.bool false) W := by simp [sem, rsem, tsem, eqNil]
theorem eqn_slz {W : AW} {K : V → AW → Prop} : sem E (.eqn false 1) [.slz, .nilsl] W K = K (.bool false) W := by simp [sem, rsem, tsem, eqNil]
theorem append_z {W : AW} {K : V → AW → Prop} {s by' : Nat} (hs : 0 < s) : sem E (.append s by') [.sl s true [], .slz] W K = K (.sl s true []) W := by
 simp [sem, elemsV, hs]
theorem append_e {W : AW} {K : V → AW → Prop} {s by' : Nat} {f : Bool} (hs : 0 < s) : sem E (.append s by') [.sl s true [], .sl s f []] W K = K (.sl s true []) W := by
 simp [sem, elemsV, hs]
theorem append_c {W : AW} {K : V → AW → Prop} {s by' : Nat} {f : Bool} {x : V} {xs : List V} (hs : 0 < s) (h : (xs.length + 1) * by' ≤ 2 ^ 46) :
  sem E (.append s by') [.sl s true [], .sl s f (x :: xs)] W K = K (.buf false W.nx s (xs.length + 1)) (W.alloc (.buf false s (x :: xs))) := by
 simp [sem, elemsV, hs, h]
theorem frz_buf {W : AW} {s n : Nat} {x : V} {xs : List V} (h : n = xs.length + 1) : (W.alloc (.buf false s (x :: xs))).frz (.buf false W.nx s n) = .sl s false (x :: xs) := by
 subst h; simp [AW.frz, AW.alloc]
theorem clone39_c (hP : PE E) (W : AW) (v : V) (xs : List V) (hv : isS 1 v xs) (hb : V.belL W.nx xs = true) (hl : xs.length < 2 ^ 40) : ACalls E 47 [v] W fun X W' => X = cloneV 1 v ∧ W' = W := by
 refine ACalls.of hP Tryz.func47 ok39e (by rcases hv with ⟨rfl, _⟩ | ⟨rfl, _⟩ | ⟨f, rfl⟩ <;> simp) fun _ hok => ?_
 rcases hv with ⟨rfl, rfl⟩ | ⟨rfl, rfl⟩ | ⟨f, rfl⟩
 ·simp only [c39, BX, ↓reduceIte, reduceCtorEq, eqn_nil]
  exact ⟨_, rfl, _, _, .weak weak_id, lr _, rfl, rfl⟩
 ·simp only [c39, BX, ↓reduceIte, nE, reduceCtorEq, eqn_slz, sem_bslice0 (s := 1) (z := .int .u16 0) rfl, append_z (by decide : 0 < 1)]
  exact ⟨_, rfl, _, _, .weak weak_id, lr _, rfl, rfl⟩
 ·cases xs with
  | nil =>
   simp only [c39, BX, ↓reduceIte, nE, reduceCtorEq, eqn_sl, sem_bslice0 (s := 1) (z := .int .u16 0) rfl, append_e (by decide : 0 < 1)]
   exact ⟨_, rfl, _, _, .weak weak_id, lr _, rfl, rfl⟩
  | cons x xs =>
   simp only [lcs] at hl
   simp only [c39, BX, ↓reduceIte, nE, reduceCtorEq, eqn_sl, sem_bslice0 (s := 1) (z := .int .u16 0) rfl, append_c (by' := 2) (xs := xs) (by decide : 0 < 1) (by omega), frz_buf rfl]
   refine ⟨_, rfl, .sl 1 false (x :: xs), W, ?_, lr _, rfl, rfl⟩
   exact .weak (weak_back hok hb fun z hz => by simp only [AW.alloc]; rw [if_neg (by omega)])
theorem clone32_c (hP : PE E) (W : AW) (v : V) (xs : List V) (hv : isS 3 v xs) (hb : V.belL W.nx xs = true) (hl : xs.length < 2 ^ 40) : ACalls E 67 [v] W fun X W' => X = cloneV 3 v ∧ W' = W := by
 refine ACalls.of hP Tryz.func67 ok32e (by rcases hv with ⟨rfl, _⟩ | ⟨rfl, _⟩ | ⟨f, rfl⟩ <;> simp) fun _ hok => ?_
 rcases hv with ⟨rfl, rfl⟩ | ⟨rfl, rfl⟩ | ⟨f, rfl⟩
 ·simp only [c32, BX, ↓reduceIte, reduceCtorEq, eqn_nil]
  exact ⟨_, rfl, _, _, .weak weak_id, lr _, rfl, rfl⟩
 ·simp only [c32, BX, ↓reduceIte, nE, reduceCtorEq, eqn_slz, sem_bslice0 (s := 3) (z := .agg [.bool false, .int .u8 0, .int .u16 0]) rfl, append_z (by decide : 0 < 3)]
  exact ⟨_, rfl, _, _, .weak weak_id, lr _, rfl, rfl⟩
 ·cases xs with
  | nil =>
   simp only [c32, BX, ↓reduceIte, nE, reduceCtorEq, eqn_sl, sem_bslice0 (s := 3) (z := .agg [.bool false, .int .u8 0, .int .u16 0]) rfl, append_e (by decide : 0 < 3)]
   exact ⟨_, rfl, _, _, .weak weak_id, lr _, rfl, rfl⟩
  | cons x xs =>
   simp only [lcs] at hl
   simp only [c32, BX, ↓reduceIte, nE, reduceCtorEq, eqn_sl, sem_bslice0 (s := 3) (z := .agg [.bool false, .int .u8 0, .int .u16 0]) rfl, append_c (by' := 4) (xs := xs) (by decide : 0 < 3) (by omega), frz_buf rfl]
   refine ⟨_, rfl, .sl 3 false (x :: xs), W, ?_, lr _, rfl, rfl⟩
   exact .weak (weak_back hok hb fun z hz => by simp only [AW.alloc]; rw [if_neg (by omega)])
mutual
theorem bel_up {m n : Nat} (h : m ≤ n) : ∀ (v : V), v.bel m = true → v.bel n = true := by
 intro v hv
 match v, hv with
 | .agg cs, hv => exact belL_up h cs hv
 | .ptr r o, hv => simp only [V.bel, decide_eq_true_eq] at hv ⊢; omega
 | .cptr cs, hv => exact belL_up h cs hv
 | .sl _ _ xs, hv => exact belL_up h xs hv
 | .buf _ r _ _, hv => simp only [V.bel, decide_eq_true_eq] at hv ⊢; omega
 | .slr r _ _ _, hv => simp only [V.bel, decide_eq_true_eq] at hv ⊢; omega
 | .vptr r _, hv => simp only [V.bel, decide_eq_true_eq] at hv ⊢; omega
 | .map r, hv => simp only [V.bel, decide_eq_true_eq] at hv ⊢; omega
 | .fn _ a b, hv => simp only [V.bel, Bool.and_eq_true] at hv ⊢; exact ⟨belL_up h a hv.1, belL_up h b hv.2⟩
 | .tuple vs, hv => exact belL_up h vs hv
 | .iface _ x, hv => exact bel_up h x hv
 | .yld r, hv => simp only [V.bel, decide_eq_true_eq] at hv ⊢; omega
 | .int _ _, _ => rfl
 | .bool _, _ => rfl
 | .str _, _ => rfl
 | .nilsl, _ => rfl
 | .nilptr, _ => rfl
 | .nilmap, _ => rfl
 | .slz, _ => rfl
 | .nilfn, _ => rfl
 | .nilif, _ => rfl
theorem belL_up {m n : Nat} (h : m ≤ n) : ∀ (l : List V), V.belL m l = true → V.belL n l = true := by
 intro l hl
 match l, hl with
 | [], _ => rfl
 | x :: xs, hl => simp only [V.belL, Bool.and_eq_true] at hl ⊢; exact ⟨bel_up h x hl.1, belL_up h xs hl.2⟩
end
def isL (v : V) : Prop := v = .nilsl ∨ v = .slz ∨ ∃ f xs, v = .sl 1 f xs ∧ V.belL 0 xs = true ∧ xs.length < 2 ^ 40
def listsV (l : List V) : V := if l = [] then .nilsl else .sl 1 false (l.map (cloneV 1))
theorem sem_bslice1v {W : AW} {K : V → AW → Prop} {x : V} (hx : x.cells.length = 1) : sem E (.bslice 1 1 .nilsl [0]) [x] W K = K (.sl 1 true [x]) W := by
 have h1 : (V.nilsl).cells.length = 1 := rfl
 simp [sem, rsem, tsem, h1, fillE, hx]
theorem cloneV_cells {v : V} (h : isL v) : (cloneV 1 v).cells = [cloneV 1 v] ∧ (cloneV 1 v).one = true := by
 rcases h with rfl | rfl | ⟨f, xs, rfl, _, _⟩
 ·exact ⟨rfl, rfl⟩
 ·exact ⟨rfl, rfl⟩
 ·cases xs <;> exact ⟨rfl, rfl⟩
theorem cloneV_bel {v : V} (h : isL v) (n : Nat) : (cloneV 1 v).bel n = true := by
 rcases h with rfl | rfl | ⟨f, xs, rfl, hb, _⟩
 ·rfl
 ·rfl
 ·cases xs with
  | nil => rfl
  | cons x xs => exact belL_up (Nat.zero_le n) _ hb
theorem frz_cloneV {W : AW} {v : V} (h : isL v) : W.frz (cloneV 1 v) = cloneV 1 v ∧ W.frz v = v := by
 rcases h with rfl | rfl | ⟨f, xs, rfl, _, _⟩
 ·exact ⟨rfl, rfl⟩
 ·exact ⟨rfl, rfl⟩
 ·cases xs <;> exact ⟨rfl, rfl⟩
theorem cloneL_c (hP : PE E) (W : AW) (v : V) (h : isL v) : ACalls E 47 [v] W fun X W' => X = cloneV 1 v ∧ W' = W := by
 rcases h with rfl | rfl | ⟨f, xs, rfl, hb, hl⟩
 ·exact clone39_c hP W _ [] (.inl ⟨rfl, rfl⟩) rfl (by simp)
 ·exact clone39_c hP W _ [] (.inr (.inl ⟨rfl, rfl⟩)) rfl (by simp)
 ·exact clone39_c hP W _ xs .mk (belL_up (Nat.zero_le _) _ hb) hl
theorem append_nil1 {W : AW} {K : V → AW → Prop} {by' : Nat} {x : V} (h : by' ≤ 2 ^ 46) : sem E (.append 1 by') [.nilsl, .sl 1 true [x]] W K = K (.buf true W.nx 1 1) (W.alloc (.buf true 1 [x])) := by
 simp [sem, elemsV, h]
theorem append_buf1 {W : AW} {K : V → AW → Prop} {by' r n : Nat} {x : V} {xs : List V} (hg : W.get r = some (.buf true 1 xs)) (hn : n = xs.length) (hx : x.cells.all V.one = true) (h : (n + 1) * by' ≤ 2 ^ 46) :
  sem E (.append 1 by') [.buf true r 1 n, .sl 1 true [x]] W K = K (.buf true r 1 (n + 1)) (W.put r (.buf true 1 (xs ++ [x]))) := by
 subst hn
 simp [sem, elemsV, hg, h, hx]
theorem listsV_bel {l : List V} (hL : ∀ x ∈ l, isL x) (n : Nat) : (listsV l).bel n = true := by
 unfold listsV
 split
 ·rfl
 ·show V.belL n (l.map (cloneV 1)) = true
  rename_i hne; clear hne
  induction l with
  | nil => rfl
  | cons x xs ih =>
   simp only [mcs, V.belL, Bool.and_eq_true]
   exact ⟨cloneV_bel (hL x (by simp)) n, ih fun y hy => hL y (by simp [hy])⟩
theorem lists_c (hP : PE E) (W : AW) (v : V) (l : List V) (hv : isS 1 v l) (hL : ∀ x ∈ l, isL x) (hl : l.length < 2 ^ 40) : ACalls E 69 [v] W fun X W' => X = listsV l ∧ W' = W := by
 refine ACalls.of hP Tryz.func69 ok28e (by rcases hv with ⟨rfl, _⟩ | ⟨rfl, _⟩ | ⟨f, rfl⟩ <;> simp) fun _ hok => ?_
 have hlen : ∀ K : V → AW → Prop, sem E (.len 1 0) [v] W K = K (.int .i64 l.length) W := by
  intro K
  rcases hv with ⟨rfl, rfl⟩ | ⟨rfl, rfl⟩ | ⟨f, rfl⟩
  ·exact sem_len_nil 0
  ·exact id rfl
  ·exact sem_len_sl ..
 simp only [c28, BZ, ↓reduceIte, reduceCtorEq, hlen]
 rw [e_loop]
 refine alp (fun (k : Nat) A1 W1 => A1 5 = some v ∧ A1 6 = some (.int .i64 l.length) ∧ A1 7 = some (.int .i64 k) ∧ k ≤ l.length ∧ W.nx ≤ W1.nx ∧ (∀ x, x < W.nx → W1.get x = W.get x) ∧
  ((k = 0 ∧ A1 2 = some .nilsl) ∨ ∃ r, W.nx ≤ r ∧ r < W1.nx ∧ 0 < k ∧ A1 2 = some (.buf true r 1 k) ∧ W1.get r = some (.buf true 1 ((l.take k).map (cloneV 1))))) (fun k => l.length - k) 0
  ⟨rfl, rfl, rfl, Nat.zero_le _, lr _, fun _ _ => rfl, .inl ⟨rfl, rfl⟩⟩ ?_
 rintro k A1 W1 ⟨g5, g6, g7, gk, gn, gw, g2⟩ _
 by_cases h : k < l.length
 ·obtain ⟨f, rfl⟩ : ∃ f, v = .sl 1 f l := by
   rcases hv with ⟨_, rfl⟩ | ⟨_, rfl⟩ | hv
   ·simp at h
   ·simp at h
   ·exact hv
  have hx : l[k]? = some l[k] := gEg h
  have hLk := hL l[k] (gmm h)
  have hi : ∀ K : V → AW → Prop, sem E (.idxp 1) [.sl 1 f l, .int .i64 (k : Int)] W1 K = K (.cptr l[k].cells) W1 := fun K => sem_idxp_sl (by omega) (by rw [Int.toNat_natCast]; exact hx)
  have hld : ∀ K : V → AW → Prop, sem E (.load false 1) [.cptr l[k].cells] W1 K = K l[k] W1 := by
   intro K
   rcases hLk with h1 | h1 | ⟨f, xs, h1, _, _⟩ <;> rw [h1] <;> rfl
  have hfz := frz_cloneV (W := W1) hLk
  have hc := cloneV_cells hLk
  have hc1 : (cloneV 1 l[k]).cells.length = 1 := by rw [hc.1]; rfl
  have hc2 : (cloneV 1 l[k]).cells.all V.one = true := by rw [hc.1]; simp [hc.2]
  have htk : (l.take (k + 1)).map (cloneV 1) = (l.take k).map (cloneV 1) ++ [cloneV 1 l[k]] := by
   rw [tao, hx]; simp only [Option.toList_some, mpp, mcs, List.map_nil]
  have hlk : ((l.take k).map (cloneV 1)).length = k := by simp; omega
  rcases g2 with ⟨rfl, g2⟩ | ⟨r, r1, r2, r3, g2, rg⟩
  ·simp (maxSteps:=9^9) (disch:=omega) only [BX, ↓reduceIte, nE, g2, g5, g6, g7, clt, h, dT, hi, hld, hfz.2]
   refine (cloneL_c hP W1 _ hLk).mono ?_
   rintro X W' ⟨rfl, rfl⟩
   simp (maxSteps:=9^9) (disch:=omega) only [BS, ↓reduceIte, nE, g5, g6, g7, sem_bslice1v hc1, append_nil1 (by' := 24) (by decide), wadd1]
   refine ⟨1, ⟨tt, tt, rfl, h, by rw [alloc_nx]; omega, fun x hx => ?_, .inr ⟨W'.nx, gn, by rw [alloc_nx]; omega, by decide, rfl, ?_⟩⟩, by omega, by rw [alloc_nx]; omega⟩
   ·rw [alloc_lt (by omega)]; exact gw x hx
   ·rw [alloc_at, htk]; rfl
  ·simp (maxSteps:=9^9) (disch:=omega) only [BX, ↓reduceIte, nE, g2, g5, g6, g7, clt, h, dT, hi, hld, hfz.2]
   refine (cloneL_c hP W1 _ hLk).mono ?_
   rintro X W' ⟨rfl, rfl⟩
   simp (maxSteps:=9^9) (disch:=omega) only [BS, ↓reduceIte, nE, g5, g6, g7, sem_bslice1v hc1, append_buf1 (by' := 24) rg hlk.symm hc2 (by omega), wadd1]
   refine ⟨k + 1, ⟨tt, tt, rfl, h, by rw [put_nx]; omega, fun x hx => ?_, .inr ⟨r, r1, by rw [put_nx]; omega, by omega, rfl, ?_⟩⟩, by omega, by rw [put_nx]; omega⟩
   ·rw [put_ne (by omega)]; exact gw x hx
   ·rw [put_at, htk]
 ·obtain rfl : k = l.length := by omega
  rcases g2 with ⟨h0, g2⟩ | ⟨r, r1, r2, r3, g2, rg⟩
  ·have hl0 : l = [] := List.length_eq_zero_iff.1 h0
   simp (maxSteps:=9^9) (disch:=omega) only [BX, ↓reduceIte, nE, g2, g6, g7, clt, h, dF]
   exact ⟨_, rfl, .nilsl, W, .weak (weak_back hok rfl gw), lr _, by rw [hl0]; rfl, rfl⟩
  ·have hne : l ≠ [] := fun e => by subst e; simp at r3
   have hfr : W1.frz (.buf true r 1 l.length) = listsV l := by
    have he : (l.map (cloneV 1)).isEmpty = false := by cases l <;> simp_all
    rw [tkl] at rg
    simp [AW.frz, rg, listsV, hne]
   simp (maxSteps:=9^9) (disch:=omega) only [BX, ↓reduceIte, nE, g2, g6, g7, clt, h, dF, hfr]
   exact ⟨_, rfl, _, W, .weak (weak_back hok (listsV_bel hL _) gw), lr _, rfl, rfl⟩
def rf (n k : Nat) : Nat := n + k
def X (W : AW) (n : Nat) (l : List AObj) : AW := ⟨fun r => if r < n then W.get r else l[r - n]?, n + l.length⟩
def optK {α : Type} (o : Option α) (k : α → Prop) : Prop := match o with
 | some v => k v
 | none => False
def loadK (o : Option AObj) (off : Nat) (g : Bool) (s : Nat) (k : V → Prop) : Prop := match o with
 | some (.row cells) => optK (partV cells off s g) k
 | _ => False
def storeK (o : Option AObj) (off s : Nat) (x : V) (k : AObj → Prop) : Prop := match o with
 | some (.row cells) => x.cells.length = s ∧ x.cells.all V.one = true ∧ off + s ≤ cells.length ∧ k (.row (cells.take off ++ x.cells ++ cells.drop (off + s)))
 | _ => False
section
variable {E : Env} {W : AW} {K : V → AW → Prop} {n : Nat} {l : List AObj}
theorem optK_some {α : Type} {v : α} {k : α → Prop} : optK (some v) k = k v := id rfl
theorem aw_ext {W W' : AW} (h : ∀ r, W.get r = W'.get r) (hn : W.nx = W'.nx) : W = W' := by
 cases W; cases W'
 simp only [AW.mk.injEq]
 exact ⟨funext h, hn⟩
theorem X_gets (r : Nat) : (X W n l).get r = if r < n then W.get r else l[r - n]? := id rfl
theorem X_nx : (X W n l).nx = rf n l.length := id rfl
theorem al_gets (o : AObj) (r : Nat) : (W.alloc o).get r = if r = W.nx then some o else W.get r := id rfl
theorem pu_gets (o : AObj) (p r : Nat) : (W.put p o).get r = if r = p then some o else W.get r := id rfl
theorem X_start (h : W.ok) : W = X W W.nx [] := by
 refine aw_ext (fun r => ?_) rfl
 rw [X_gets]
 by_cases hr : r < W.nx
 ·simp [hr]
 ·simp only [hr, if_false]
  cases hg : W.get r with
  | none => simp
  | some o => exact absurd (h r o hg).1 hr
theorem X_alloc {o : AObj} : (X W n l).alloc o = X W n (l ++ [o]) := by
 refine aw_ext (fun r => ?_) (by simp [AW.alloc, X, Nat.add_assoc])
 rw [X_gets, al_gets, X_gets, X_nx, rf]
 by_cases h : r = n + l.length
 ·subst h
  rw [if_pos rfl, if_neg (by omega)]
  simp
 ·simp only [h, if_false]
  by_cases h2 : r < n
  ·simp [h2]
  ·simp only [h2, if_false]
   rw [List.getElem?_append]
   split
   ·rfl
   ·rw [List.getElem?_eq_none (by omega), List.getElem?_eq_none (by simp; omega)]
theorem X_get {k : Nat} : (X W n l).get (rf n k) = l[k]? := by
 simp only [X, rf]
 rw [if_neg (by omega), Nat.add_sub_cancel_left]
theorem X_old {p : Nat} (h : p < n) : (X W n l).get p = W.get p := by
 simp only [X]; rw [if_pos h]
theorem X_put {k : Nat} {o : AObj} (h : k < l.length) : (X W n l).put (rf n k) o = X W n (l.set k o) := by
 refine aw_ext (fun r => ?_) (by simp [AW.put, X])
 rw [X_gets, pu_gets, X_gets, rf]
 by_cases h1 : r = n + k
 ·subst h1
  rw [if_pos rfl, if_neg (by omega)]
  simp [h]
 ·simp only [h1, if_false]
  by_cases h2 : r < n
  ·simp [h2]
  ·simp only [h2, if_false]
   rw [List.getElem?_set_ne (by omega)]
def AW.pt (W : AW) (r : Nat) (o : AObj) : AW := W.put r o
theorem X_put1 {k : Nat} {o : AObj} : (X W n l).put (rf n k) o = if k < l.length then X W n (l.set k o) else AW.pt (X W n l) (rf n k) o := by
 split
 ·rename_i h; exact X_put h
 ·rfl
theorem X_putold {p : Nat} {o : AObj} (h : p < n) : (X W n l).put p o = X (W.put p o) n l := by
 refine aw_ext (fun r => ?_) rfl
 rw [X_gets, pu_gets, X_gets, pu_gets]
 by_cases h1 : r = p
 ·subst h1; simp [h]
 ·simp [h1]
theorem m_load {g : Bool} {s r off : Nat} : sem E (.load g s) [.ptr r off] W K = loadK (W.get r) off g s (fun v => K v W) := by
 simp only [sem, rsem, loadK]
 cases h : W.get r with
 | none => rfl
 | some o =>
  cases o <;> simp [optK]
  case row cells => cases partV cells off s g <;> rfl
theorem loadK_f {s off : Nat} {cells : List V} {k : V → Prop} : loadK (some (.row cells)) off false s k = optK cells[off]? k := id rfl
theorem loadK_t {s off : Nat} {cells : List V} {k : V → Prop} : loadK (some (.row cells)) off true s k = if off + s ≤ cells.length then k (.agg ((cells.drop off).take s)) else False := by
 simp only [loadK, partV, if_true]
 split <;> rfl
theorem partV_f {s off : Nat} {cells : List V} : partV cells off s false = cells[off]? := id rfl
theorem partV_t {s off : Nat} {cells : List V} : partV cells off s true = if off + s ≤ cells.length then some (.agg ((cells.drop off).take s)) else none := id rfl
theorem m_loadc {g : Bool} {s : Nat} {cells : List V} : sem E (.load g s) [.cptr cells] W K = optK (partV cells 0 s g) (fun v => K v W) := by
 simp only [sem, rsem, tsem]
 cases partV cells 0 s g <;> rfl
theorem m_loadcf {s : Nat} {c : V} {cs : List V} : sem E (.load false s) [.cptr (c :: cs)] W K = K c W := id rfl
theorem m_loadct {s : Nat} {c : V} {cs : List V} : sem E (.load true s) [.cptr (c :: cs)] W K = if s ≤ (c :: cs).length then K (.agg ((c :: cs).take s)) W else False := by
 rw [m_loadc, partV_t, Nat.zero_add, List.drop_zero]
 split <;> rfl
theorem m_store {s r off : Nat} {x : V} : sem E (.store s) [.ptr r off, x] W K = storeK (W.get r) off s x (fun o => K .undef (W.put r o)) := by
 simp only [sem, storeK]
 cases h : W.get r with
 | none => rfl
 | some o => cases o <;> rfl
theorem storeK_row {s off : Nat} {x : V} {cells : List V} {k : AObj → Prop} : storeK (some (.row cells)) off s x k = if x.cells.length = s then (if x.cells.all V.one = true then (if off + s ≤ cells.length then k (.row (cells.take off ++ x.cells ++ cells.drop (off + s))) else False) else False) else False := by
 simp only [storeK]
 by_cases h1 : x.cells.length = s <;> by_cases h2 : x.cells.all V.one = true <;> by_cases h3 : off + s ≤ cells.length <;> simp [h1, h2, h3]
theorem m_fldc {off : Nat} {cells : List V} : sem E (.fld off) [.cptr cells] W K = if off ≤ cells.length then K (.cptr (cells.drop off)) W else False := by
 simp only [sem, rsem, tsem]
 by_cases h : off ≤ cells.length <;> simp [h]
theorem m_fldcc {off : Nat} {c : V} {cs : List V} : sem E (.fld off) [.cptr (c :: cs)] W K = if off ≤ (c :: cs).length then K (.cptr ((c :: cs).drop off)) W else False := m_fldc
theorem m_idxpN {s : Nat} {f : Bool} {xs : List V} {kk : IntKind} {i : Nat} : sem E (.idxp s) [.sl s f xs, .int kk (i : Int)] W K = optK xs[i]? (fun x => K (.cptr x.cells) W) := by
 simp only [sem, rsem, tsem, true_and, Int.natCast_nonneg, if_true, Int.toNat_natCast]
 cases xs[i]? <;> rfl
theorem m_pcall {f : FuncId} {vs : List V} : sem E (.pcall f) vs W K = ∃ v, ACalls E f (vs.map W.frz) W (fun X W' => X = v ∧ W' = W) ∧ K v W := id rfl
theorem m_build {zero : List V} {places : List (Nat × Nat)} {xs : List V} : sem E (.build zero places) xs W K = optK (fillV zero places xs) (fun cs => K (.agg cs) W) := by
 simp only [sem, rsem, tsem]
 cases fillV zero places xs <;> rfl
theorem fillV_nil {cells : List V} : fillV cells [] [] = some cells := id rfl
theorem fillV_cons {cells : List V} {off s : Nat} {ps : List (Nat × Nat)} {x : V} {xs : List V} : fillV cells ((off, s) :: ps) (x :: xs) = if x.cells.length = s then (if off + s ≤ cells.length then fillV (cells.take off ++ x.cells ++ cells.drop (off + s)) ps xs else none) else none := by
 simp only [fillV]
 by_cases h1 : x.cells.length = s <;> by_cases h3 : off + s ≤ cells.length <;> simp [h1, h3]
theorem m_eqn {neg : Bool} {cat : Nat} {x y : V} : sem E (.eqn neg cat) [x, y] W K = optK (eqNil cat x y) (fun b => K (.bool (if neg = true then !b else b)) W) := by
 simp only [sem, rsem, tsem]
 cases eqNil cat x y <;> rfl
theorem eqNil_pn {r o : Nat} : eqNil 0 (.ptr r o) .nilptr = some false := id rfl
theorem eqNil_nn : eqNil 0 .nilptr .nilptr = some true := id rfl
theorem eqNil_mn {r : Nat} : eqNil 2 (.map r) .nilmap = some false := id rfl
theorem eqNil_fn {f : Fn} {a b : List V} : eqNil 3 (.fn f a b) .nilfn = some false := id rfl
theorem cells_int {k : IntKind} {a : Int} : (V.int k a).cells = [.int k a] := id rfl
theorem cells_bool {b : Bool} : (V.bool b).cells = [.bool b] := id rfl
theorem cells_agg {cs : List V} : (V.agg cs).cells = cs := id rfl
theorem cells_nilsl : V.nilsl.cells = [.nilsl] := id rfl
theorem cells_sl {s : Nat} {f : Bool} {xs : List V} : (V.sl s f xs).cells = [.sl s f xs] := id rfl
theorem cells_ptr {r o : Nat} : (V.ptr r o).cells = [.ptr r o] := id rfl
theorem cells_map {r : Nat} : (V.map r).cells = [.map r] := id rfl
theorem cells_fn {f : Fn} {a b : List V} : (V.fn f a b).cells = [.fn f a b] := id rfl
theorem cells_nilfn : V.nilfn.cells = [.nilfn] := id rfl
theorem one_int {k : IntKind} {a : Int} : (V.int k a).one = true := id rfl
theorem one_bool {b : Bool} : (V.bool b).one = true := id rfl
theorem one_nilsl : V.nilsl.one = true := id rfl
theorem one_sl {s : Nat} {f : Bool} {xs : List V} : (V.sl s f xs).one = true := id rfl
theorem one_ptr {r o : Nat} : (V.ptr r o).one = true := id rfl
theorem one_map {r : Nat} : (V.map r).one = true := id rfl
theorem one_fn {f : Fn} {a b : List V} : (V.fn f a b).one = true := id rfl
theorem one_nilfn : V.nilfn.one = true := id rfl
def cellV (o : Option AObj) (off : Nat) (g : Bool) (s : Nat) : Option V := match o with
 | some (.row cells) => partV cells off s g
 | _ => none
theorem cellV_row {off s : Nat} {g : Bool} {cells : List V} : cellV (some (.row cells)) off g s = partV cells off s g := id rfl
theorem rsem_load {g : Bool} {s r off : Nat} : rsem (.load g s) [.ptr r off] W = cellV (W.get r) off g s := by
 simp only [rsem, cellV]
 cases W.get r with
 | none => rfl
 | some o => cases o <;> rfl
theorem rt_cell {A : AFr} {t s : Nat} {g : Bool} : RT.ev A W (.cell t g s) = (match A t with
  | some p => (rsem (.load g s) [p] W).map W.frz
  | none => none) := id rfl
theorem rt_tmp {A : AFr} {t : Nat} : RT.ev A W (.tmp t) = (A t).map W.frz := id rfl
theorem e_resc2 {A : AFr} {t s : Nat} {g : Bool} {b : RT} : resV A W [.cell t g s, b] = (match RT.ev A W (.cell t g s), RT.ev A W b with
  | some x, some y => some (.tuple [x, y])
  | _, _ => none) := by
 simp only [resV, resL]
 cases RT.ev A W (.cell t g s) <;> cases RT.ev A W b <;> rfl
theorem e_resc {A : AFr} {t s : Nat} {g : Bool} : resV A W [.cell t g s] = RT.ev A W (.cell t g s) := by
 simp only [resV, resL]
 cases RT.ev A W (.cell t g s) <;> rfl
theorem undef_t : V.undef = .tuple [] := id rfl
theorem e_alt {a b : PT} {Kf : AFr → AW → Prop} {A : AFr} : aT E (.alt a b) Kf A W = (aT E a Kf A W ∧ aT E b Kf A W) := id rfl
theorem awp_start {c : AC} {Q : Exit → AFr → AW → Prop} {A : AFr} (hok : W.ok) (h : awp E c Q A (X W W.nx [])) : awp E c Q A W := by
 rw [X_start hok]; exact h
theorem backX {x : V} (hok : W.ok) (hx : x.bel W.nx = true) : RetV x (X W W.nx l) x W := .weak (weak_back hok hx fun _ h => X_old h)
end
theorem BM : (type_of% @X_alloc) ∧ (type_of% @X_nx) ∧ (type_of% @X_get) ∧ (type_of% @X_put1) ∧ (type_of% @X_old) ∧ (type_of% @X_putold) ∧ (type_of% @m_load) ∧ (type_of% @loadK_f) ∧ (type_of% @loadK_t) ∧ (type_of% @optK_some) ∧ (type_of% @m_loadcf) ∧ (type_of% @m_loadct) ∧ (type_of% @partV_f) ∧ (type_of% @partV_t) ∧ (type_of% @m_store) ∧ (type_of% @storeK_row) ∧ (type_of% @m_fldcc) ∧ (type_of% @m_idxpN) ∧ (type_of% @m_build) ∧ (type_of% @fillV_nil) ∧ (type_of% @fillV_cons) ∧ (type_of% @m_eqn) ∧ (type_of% @eqNil_pn) ∧ (type_of% @eqNil_nn) ∧ (type_of% @eqNil_mn) ∧ (type_of% @eqNil_fn) ∧ (type_of% @cells_int) ∧ (type_of% @cells_bool) ∧ (type_of% @cells_agg) ∧ (type_of% @cells_nilsl) ∧ (type_of% @cells_sl) ∧ (type_of% @cells_ptr) ∧ (type_of% @cells_map) ∧ (type_of% @cells_fn) ∧ (type_of% @cells_nilfn) ∧ (type_of% @one_int) ∧ (type_of% @one_bool) ∧ (type_of% @one_nilsl) ∧ (type_of% @one_sl) ∧ (type_of% @one_ptr) ∧ (type_of% @one_map) ∧ (type_of% @one_fn) ∧ (type_of% @one_nilfn) ∧ (type_of% @undef_t) ∧ (type_of% @e_alt) ∧ (type_of% @e_resc) ∧ (type_of% @e_resc2) ∧ (type_of% @rt_cell) ∧ (type_of% @rt_tmp) ∧ (type_of% @rsem_load) ∧ (type_of% @cellV_row) ∧ (type_of% @partV_f) ∧ (type_of% @partV_t) :=
 ⟨@X_alloc, @X_nx, @X_get, @X_put1, @X_old, @X_putold, @m_load, @loadK_f, @loadK_t, @optK_some, @m_loadcf, @m_loadct, @partV_f, @partV_t, @m_store, @storeK_row, @m_fldcc, @m_idxpN, @m_build, @fillV_nil, @fillV_cons, @m_eqn, @eqNil_pn, @eqNil_nn, @eqNil_mn, @eqNil_fn, @cells_int, @cells_bool, @cells_agg, @cells_nilsl, @cells_sl, @cells_ptr, @cells_map, @cells_fn, @cells_nilfn, @one_int, @one_bool, @one_nilsl, @one_sl, @one_ptr, @one_map, @one_fn, @one_nilfn, @undef_t, @e_alt, @e_resc, @e_resc2, @rt_cell, @rt_tmp, @rsem_load, @cellV_row, @partV_f, @partV_t⟩
theorem BD : (type_of% @List.cons_append.{0}) ∧ (type_of% @List.nil_append.{0}) ∧ (type_of% @List.append_nil.{0}) ∧ (type_of% @List.length_cons.{0}) ∧ (type_of% @List.length_nil.{0}) ∧ (type_of% @List.length_append.{0}) ∧ (type_of% @Nat.zero_add) ∧ (type_of% @Nat.add_zero) ∧ (type_of% @List.set_cons_zero.{0}) ∧ (type_of% @List.set_cons_succ.{0}) ∧ (type_of% @List.drop_succ_cons.{0}) ∧ (type_of% @List.drop_zero.{0}) ∧ (type_of% @List.drop_nil.{0}) ∧ (type_of% @List.take_succ_cons.{0}) ∧ (type_of% @List.take_zero.{0}) ∧ (type_of% @List.take_nil.{0}) ∧ (type_of% @List.all_cons.{0}) ∧ (type_of% @List.all_nil.{0}) ∧ (type_of% @Bool.and_true) ∧ (type_of% @Bool.true_and) ∧ (type_of% @Bool.and_self) ∧ (type_of% @Bool.not_true) ∧ (type_of% @Bool.not_false) :=
 ⟨@List.cons_append.{0}, @List.nil_append.{0}, @List.append_nil.{0}, @List.length_cons.{0}, @List.length_nil.{0}, @List.length_append.{0}, @Nat.zero_add, @Nat.add_zero, @List.set_cons_zero.{0}, @List.set_cons_succ.{0}, @List.drop_succ_cons.{0}, @List.drop_zero.{0}, @List.drop_nil.{0}, @List.take_succ_cons.{0}, @List.take_zero.{0}, @List.take_nil.{0}, @List.all_cons.{0}, @List.all_nil.{0}, @Bool.and_true, @Bool.true_and, @Bool.and_self, @Bool.not_true, @Bool.not_false⟩
section
variable {E : Env} {W : AW} {K : V → AW → Prop} {s : Nat} {v : V} {xs : List V}
theorem isS.len (h : isS s v xs) {n : Nat} : sem E (.len 1 n) [v] W K = K (.int .i64 xs.length) W := by
 rcases h with ⟨rfl, rfl⟩ | ⟨rfl, rfl⟩ | ⟨f, rfl⟩ <;> rfl
theorem isS.idx (h : isS s v xs) {k : Nat} {x : V} {kk : IntKind} (hx : xs[k]? = some x) : sem E (.idxp s) [v, .int kk (k : Int)] W K = K (.cptr x.cells) W := by
 rcases h with ⟨rfl, rfl⟩ | ⟨rfl, rfl⟩ | ⟨f, rfl⟩
 ·simp at hx
 ·simp at hx
 ·rw [m_idxpN, hx]; rfl
theorem isS.frz (h : isS s v xs) : W.frz v = v := by
 rcases h with ⟨rfl, rfl⟩ | ⟨rfl, rfl⟩ | ⟨f, rfl⟩ <;> rfl
theorem isS.cells (h : isS s v xs) : v.cells = [v] := by
 rcases h with ⟨rfl, rfl⟩ | ⟨rfl, rfl⟩ | ⟨f, rfl⟩ <;> rfl
theorem isS.one (h : isS s v xs) : v.one = true := by
 rcases h with ⟨rfl, rfl⟩ | ⟨rfl, rfl⟩ | ⟨f, rfl⟩ <;> rfl
theorem isS.lens (h : isS s v xs) {n : Nat} (hl : V.belL n xs = true) : v.bel n = true := by
 rcases h with ⟨rfl, rfl⟩ | ⟨rfl, rfl⟩ | ⟨f, rfl⟩
 ·rfl
 ·rfl
 ·exact hl
theorem isS.loadf (h : isS s v xs) {m : Nat} : sem E (.load false m) [.cptr v.cells] W K = K v W := by
 rcases h with ⟨rfl, rfl⟩ | ⟨rfl, rfl⟩ | ⟨f, rfl⟩ <;> rfl
end
theorem pc {E : Env} {W : AW} {f : FuncId} {vs : List V} {Q : V → AW → Prop} {v : V} (h : ACalls E f vs W fun X W' => X = v ∧ W' = W) (hq : Q v W) : ACalls E f vs W Q :=
 h.mono fun _ _ ⟨h1, h2⟩ => by rw [h1, h2]; exact hq
structure Mi where
 read : Bool
 key : Int
 v : Int
 deriving DecidableEq
def Mi.V (m : Mi) : V := .agg [.bool m.read, .int .u8 m.key, .int .u16 m.v]
def Mi.ok (m : Mi) : Prop := 0 ≤ m.key ∧ m.key < 256 ∧ 0 ≤ m.v ∧ m.v < 65536
section
variable {E : Env} {W : AW} {K : V → AW → Prop} {m m' : Mi}
theorem mi_load : sem E (.load true 3) [.cptr m.V.cells] W K = K m.V W := id rfl
theorem mi_frz : W.frz m.V = m.V := id rfl
theorem mi_has (h : m.ok) : m.V.has (true, [.b, .i .u8, .i .u16]) = true := by
 obtain ⟨h1, h2, h3, h4⟩ := h
 simp [Mi.V, V.has, V.isAgg, V.cells, V.hasKs, V.hasK, Lit.wf, IntKind.min, IntKind.max, IntKind.signed, IntKind.bits]
 omega
theorem mi_keq : m.V.keq m'.V = decide (m = m') := by
 cases m; cases m'
 rename_i a b c a' b' c'
 have hd : decide (Mi.mk a b c = Mi.mk a' b' c') = (decide (a = a') && (decide (b = b') && decide (c = c'))) := by
  simp only [Mi.mk.injEq, Bool.decide_and]
 rw [hd]
 simp only [Mi.V, V.keq, V.cells, V.eqs, V.eq1, Bool.and_true]
 have h1 : (a == a') = decide (a = a') := by cases a <;> cases a' <;> rfl
 have h2 : (b == b') = decide (b = b') := by by_cases e : b = b' <;> simp [e]
 have h3 : (c == c') = decide (c = c') := by by_cases e : c = c' <;> simp [e]
 rw [h1, h2, h3]
theorem mi_eqv (h : m.ok) (h' : m'.ok) {neg : Bool} : sem E (.eqv neg (true, [.b, .i .u8, .i .u16])) [m.V, m'.V] W K = K (.bool (if neg = true then !decide (m = m') else decide (m = m'))) W := by
 simp [sem, rsem, tsem, mi_has h, mi_has h', mi_keq]
end
theorem cmpne {a b : Int} : (a != b) = decide (a ≠ b) := by
 by_cases e : a = b <;> simp [e]
theorem cmpeq {a b : Int} : (a == b) = decide (a = b) := by
 by_cases e : a = b <;> simp [e]
def intsV (l : List Int) : List V := l.map (V.int .u16)
def isEl (v : V) (o : Option (List Int)) : Prop := (v = .nilsl ∧ o = none) ∨ (v = .slz ∧ o = some []) ∨ ∃ f l, o = some l ∧ v = .sl 1 f (intsV l)
def nums (o : Option (List Int)) : List Int := o.getD []
theorem isEl.isS {v : V} {o : Option (List Int)} (h : isEl v o) : isS 1 v (intsV (nums o)) := by
 rcases h with ⟨rfl, rfl⟩ | ⟨rfl, rfl⟩ | ⟨f, l, rfl, rfl⟩
 ·exact .inl ⟨rfl, rfl⟩
 ·exact .inr (.inl ⟨rfl, rfl⟩)
 ·exact .mk
theorem belL_ints (l : List Int) (n : Nat) : V.belL n (intsV l) = true := by
 induction l with
 | nil => rfl
 | cons x l ih =>
  simp only [intsV, mcs, V.belL, Bool.and_eq_true]
  exact ⟨rfl, ih⟩
theorem belL_mi (l : List Mi) (n : Nat) : V.belL n (l.map Mi.V) = true := by
 induction l with
 | nil => rfl
 | cons x l ih =>
  simp only [mcs, V.belL, Bool.and_eq_true]
  exact ⟨rfl, ih⟩
def isMs (v : V) (l : List Mi) : Prop := isS 3 v (l.map Mi.V)
def isLs (v : V) (ls : List (Option (List Int))) : Prop := ∃ xs, isS 1 v xs ∧ xs.length = ls.length ∧ ∀ k (h : k < xs.length) (h' : k < ls.length), isEl xs[k] ls[k]
def elV : Option (List Int) → V
 | none => .nilsl
 | some l => .sl 1 l.isEmpty (intsV l)
def lsV (ls : List (Option (List Int))) : V := if ls = [] then .nilsl else .sl 1 false (ls.map elV)
def msV (l : List Mi) : V := if l = [] then .nilsl else .sl 3 false (l.map Mi.V)
theorem elV_isEl (o : Option (List Int)) : isEl (elV o) o := by
 cases o with
 | none => exact .inl ⟨rfl, rfl⟩
 | some l => exact .inr (.inr ⟨_, l, rfl, rfl⟩)
theorem lsV_isLs (ls : List (Option (List Int))) : isLs (lsV ls) ls := by
 refine ⟨ls.map elV, ?_, by simp, fun k h h' => ?_⟩
 ·unfold lsV
  split
  ·rename_i h; subst h; exact .inl ⟨rfl, rfl⟩
  ·exact .mk
 ·rw [List.getElem_map]; exact elV_isEl _
theorem msV_isMs (l : List Mi) : isMs (msV l) l := by
 unfold msV isMs
 split
 ·rename_i h; subst h; exact .inl ⟨rfl, rfl⟩
 ·exact .mk
theorem mi_at {l : List Mi} {k : Nat} (h : k < l.length) : (l.map Mi.V)[k]? = some (l[k]).V := by simp [h]
theorem int_at {l : List Int} {k : Nat} (h : k < l.length) : (intsV l)[k]? = some (.int .u16 l[k]) := by simp [intsV, h]
theorem ints_len (l : List Int) : (intsV l).length = l.length := by simp [intsV]
def c50 : AC := (.r [.v 4 (.bool false)] (.seq (.r [.m 6 0,.u 7 (.len 1 0) 6,.m 8 1,.u 9 (.len 1 0) 8,.b 10 (.bin .neq) 7 9] (.cond (.t 10) (.r [.v 4 (.bool false)] .ret) .skip)) (.seq (.r [.m 11 0,.u 12 (.len 1 0) 11,.v 13 (.int .i64 0)] (.block 0 (.loop (.r [.b 14 (.bin .lss) 13 12] (.seq (.w 14 0) (.seq (.block 1 (.r [.m 15 13,.m 5 15] (.seq (.par (.step 0 (.m 16 0) (.step 1 (.m 17 5) (.step 4 (.m 20 1) (.step 5 (.m 21 5) (.step 2 (.b 18 (.idxp 3) 16 17) (.step 3 (.u 19 (.load true 3) 18) (.step 6 (.b 22 (.idxp 3) 20 21) (.step 7 (.u 23 (.load true 3) 22) (.step 8 (.b 24 (.eqv true (true, [.b,.i .u8,.i .u16])) 19 23) .done)))))))))) (.cond (.t 24) (.r [.v 4 (.bool false)] .ret) .skip)))) (.reg [.a 25 (.bin .add) 13 1,.m 13 25]))))))) (.r [.v 4 (.bool true)] .ret))))
theorem ok50e : compF Tryz.prog Tryz.f123 ⟨false, false, []⟩ = some (c50, [.tmp 4], 26) := by kernel_rfl
def c52 : AC := (.r [.v 4 (.bool false)] (.seq (.r [.m 6 0,.u 7 (.len 1 0) 6,.m 8 1,.u 9 (.len 1 0) 8,.b 10 (.bin .neq) 7 9] (.cond (.t 10) (.r [.v 4 (.bool false)] .ret) .skip)) (.seq (.r [.m 11 0,.u 12 (.len 1 0) 11,.v 13 (.int .i64 0)] (.block 0 (.loop (.r [.b 14 (.bin .lss) 13 12] (.seq (.w 14 0) (.seq (.block 1 (.r [.m 15 13,.m 5 15] (.seq (.par (.step 0 (.m 16 0) (.step 1 (.m 17 5) (.step 4 (.m 20 1) (.step 5 (.m 21 5) (.step 2 (.b 18 (.idxp 1) 16 17) (.step 3 (.u 19 (.load false 1) 18) (.step 6 (.b 22 (.idxp 1) 20 21) (.step 7 (.u 23 (.load false 1) 22) (.step 8 (.b 24 (.bin .neq) 19 23) .done)))))))))) (.cond (.t 24) (.r [.v 4 (.bool false)] .ret) .skip)))) (.reg [.a 25 (.bin .add) 13 1,.m 13 25]))))))) (.r [.v 4 (.bool true)] .ret))))
theorem ok52e : compF Tryz.prog Tryz.f97 ⟨false, false, []⟩ = some (c52, [.tmp 4], 26) := by kernel_rfl
theorem take_ext {α : Type} {l m : List α} {k : Nat} (h : l.take k = m.take k) (hl : k < l.length) (hm : k < m.length) (e : l[k] = m[k]) : l.take (k + 1) = m.take (k + 1) := by
 rw [tao, tao, h, gEg hl, gEg hm, e]
theorem ne_at {α : Type} {l m : List α} {k : Nat} (hl : k < l.length) (hm : k < m.length) (e : l[k] ≠ m[k]) : l ≠ m := by
 intro h; subst h; exact e rfl
theorem eqMi_c (hP : PE E) (W : AW) {v v' : V} {l l' : List Mi} (h : isMs v l) (h' : isMs v' l') (hk : ∀ m ∈ l, m.ok) (hk' : ∀ m ∈ l', m.ok) (hl : l.length < 2 ^ 40) : ACalls E 123 [v, v'] W fun X W' => X = .bool (decide (l = l')) ∧ W' = W := by
 refine ACalls.of hP Tryz.func123 ok50e (by simp) fun _ hok => ?_
 have f1 := h.frz (W := W)
 by_cases hlen : l.length = l'.length
 ·simp only [c50, BX, ↓reduceIte, nE, reduceCtorEq, h.len, h'.len, lmp, hlen, bne_self_eq_false]
  rw [e_loop]
  refine alp (fun (k : Nat) A1 W1 => A1 0 = some v ∧ A1 1 = some v' ∧ A1 12 = some (.int .i64 l'.length) ∧ A1 13 = some (.int .i64 k) ∧ k ≤ l'.length ∧ W1 = W ∧ l.take k = l'.take k) (fun k => l'.length - k) 0
   ⟨rfl, rfl, rfl, rfl, Nat.zero_le _, rfl, rfl⟩ ?_
  rintro k A1 W1 ⟨g0, g1, g12, g13, gk, rfl, ge⟩ _
  by_cases hk1 : k < l'.length
  ·have hk2 : k < l.length := by omega
   have o1 := hk l[k] (gmm hk2)
   have o2 := hk' l'[k] (gmm hk1)
   by_cases he : l[k] = l'[k]
   ·simp (maxSteps:=9^9) (disch:=omega) only [BX, ↓reduceIte, nE, reduceCtorEq, BD, g0, g1, g12, g13, clt, hk1, dT, h.idx (mi_at hk2), h'.idx (mi_at hk1), mi_load, mi_eqv o1 o2, decide_eq_true he, wadd1]
    exact ⟨k + 1, ⟨tt, tt, tt, tt, tt, tt, take_ext ge hk2 hk1 he⟩, by omega, lr _⟩
   ·simp (maxSteps:=9^9) (disch:=omega) only [BX, ↓reduceIte, nE, reduceCtorEq, BD, g0, g1, g12, g13, clt, hk1, dT, h.idx (mi_at hk2), h'.idx (mi_at hk1), mi_load, mi_eqv o1 o2, decide_eq_false he]
    exact ⟨_, rfl, _, _, .weak weak_id, lr _, by simp [ne_at hk2 hk1 he], rfl⟩
  ·obtain rfl : k = l'.length := by omega
   simp only [BX, ↓reduceIte, g12, g13, clt, hk1, dF]
   refine ⟨_, rfl, _, _, .weak weak_id, lr _, ?_, rfl⟩
   rw [tkl, ← hlen, tkl] at ge
   simp [ge]
 ·have hne : l ≠ l' := fun e => hlen (by rw [e])
  have hb : ((l.length : Int) != (l'.length : Int)) = true := by simp; omega
  simp only [c50, BX, ↓reduceIte, nE, reduceCtorEq, h.len, h'.len, lmp, hb]
  exact ⟨_, rfl, _, _, .weak weak_id, lr _, by simp [hne], rfl⟩
theorem eqI_c (hP : PE E) (W : AW) {v v' : V} {l l' : List Int} (h : isS 1 v (intsV l)) (h' : isS 1 v' (intsV l')) (hl : l.length < 2 ^ 40) : ACalls E 97 [v, v'] W fun X W' => X = .bool (decide (l = l')) ∧ W' = W := by
 refine ACalls.of hP Tryz.func97 ok52e (by simp) fun _ hok => ?_
 have f1 := h.frz (W := W)
 by_cases hlen : l.length = l'.length
 ·simp only [c52, BX, ↓reduceIte, nE, reduceCtorEq, h.len, h'.len, ints_len, hlen, bne_self_eq_false]
  rw [e_loop]
  refine alp (fun (k : Nat) A1 W1 => A1 0 = some v ∧ A1 1 = some v' ∧ A1 12 = some (.int .i64 l'.length) ∧ A1 13 = some (.int .i64 k) ∧ k ≤ l'.length ∧ W1 = W ∧ l.take k = l'.take k) (fun k => l'.length - k) 0
   ⟨rfl, rfl, rfl, rfl, Nat.zero_le _, rfl, rfl⟩ ?_
  rintro k A1 W1 ⟨g0, g1, g12, g13, gk, rfl, ge⟩ _
  by_cases hk1 : k < l'.length
  ·have hk2 : k < l.length := by omega
   by_cases he : l[k] = l'[k]
   ·simp (maxSteps:=9^9) (disch:=omega) only [BX, ↓reduceIte, nE, reduceCtorEq, BM, BD, g0, g1, g12, g13, clt, hk1, dT, h.idx (int_at hk2), h'.idx (int_at hk1), cmpne, decide_not, decide_eq_true he, wadd1]
    exact ⟨k + 1, ⟨tt, tt, tt, tt, tt, tt, take_ext ge hk2 hk1 he⟩, by omega, lr _⟩
   ·simp (maxSteps:=9^9) (disch:=omega) only [BX, ↓reduceIte, nE, reduceCtorEq, BM, BD, g0, g1, g12, g13, clt, hk1, dT, h.idx (int_at hk2), h'.idx (int_at hk1), cmpne, decide_not, decide_eq_false he]
    exact ⟨_, rfl, _, _, .weak weak_id, lr _, by simp [ne_at hk2 hk1 he], rfl⟩
  ·obtain rfl : k = l'.length := by omega
   simp only [BX, ↓reduceIte, g12, g13, clt, hk1, dF]
   refine ⟨_, rfl, _, _, .weak weak_id, lr _, ?_, rfl⟩
   rw [tkl, ← hlen, tkl] at ge
   simp [ge]
 ·have hne : l ≠ l' := fun e => hlen (by rw [e])
  have hb : ((l.length : Int) != (l'.length : Int)) = true := by simp; omega
  simp only [c52, BX, ↓reduceIte, nE, reduceCtorEq, h.len, h'.len, ints_len, hb]
  exact ⟨_, rfl, _, _, .weak weak_id, lr _, by simp [hne], rfl⟩
end Go.AL.S
