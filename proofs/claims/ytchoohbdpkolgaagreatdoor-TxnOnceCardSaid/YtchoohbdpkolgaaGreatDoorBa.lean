/- The sorting of numbers, part 1. Conditions: none. -/
import Derived.Test.YtchoohbdpkolgaaGreatDoorAd
import Derived.Test.YtchoohbdpkolgaaGreatDoorChecked
import Derived.KernelRfl
import Derived.IntWalk
import Derived.Sort.AssemblyPlain
set_option maxRecDepth 100000
namespace Go.AL.S
open Go Go.AL Go.Proofs Go.Sort
/- cmp.Less[uint16] -/
def c87 : AC := (AC.seq (AC.reg [
  ⟨(some 4), .mov, [.c (.bool false)], none⟩])
 (AC.seq (AC.reg [
  ⟨(some 5), .mov, [.t 0], none⟩,
  ⟨(some 6), .call 119, [.t 5], none⟩,
  ⟨(some 7), .mov, [.t 6], none⟩,
  ⟨(some 8), .mov, [.t 1], (some (7, true))⟩,
  ⟨(some 9), .call 119, [.t 8], (some (7, true))⟩,
  ⟨(some 10), .un .not, [.t 9], (some (7, true))⟩,
  ⟨(some 11), .pick, [.t 7, .t 10, .c (.bool false)], none⟩,
  ⟨(some 12), .mov, [.t 11], none⟩,
  ⟨(some 13), .mov, [.t 0], (some (12, false))⟩,
  ⟨(some 14), .mov, [.t 1], (some (12, false))⟩,
  ⟨(some 15), .bin .lss, [.t 13, .t 14], (some (12, false))⟩,
  ⟨(some 16), .pick, [.t 12, .c (.bool true), .t 15], none⟩,
  ⟨(some 4), .mov, [.t 16], none⟩])
 AC.ret))
def r87 : AC × List RT × Nat := (c87, [.tmp 4], 17)
theorem ok87e : compF Tryz.prog Tryz.f87 ⟨true, false, []⟩ = some r87 := by kernel_rfl
/- cmp.isNaN[uint16] -/
def c119 : AC := (AC.seq (AC.reg [
  ⟨(some 2), .mov, [.c (.bool false)], none⟩])
 (AC.seq (AC.reg [
  ⟨(some 3), .mov, [.t 0], none⟩,
  ⟨(some 4), .mov, [.t 0], none⟩,
  ⟨(some 5), .bin .neq, [.t 3, .t 4], none⟩,
  ⟨(some 2), .mov, [.t 5], none⟩])
 AC.ret))
def r119 : AC × List RT × Nat := (c119, [.tmp 2], 6)
theorem ok119e : compF Tryz.prog Tryz.f119 ⟨true, false, []⟩ = some r119 := by kernel_rfl
/- slices.siftDownOrdered[uint16] -/
def c114 : AC := (AC.seq (AC.reg [
  ⟨(some 10), .mov, [.t 1], none⟩,
  ⟨(some 8), .mov, [.t 10], none⟩])
 (AC.block 0
  (AC.loop
   (AC.block 1
    (AC.seq (AC.reg [
     ⟨(some 11), .mov, [.t 8], none⟩,
     ⟨(some 12), .bin .mul, [.c (.int .i64 2), .t 11], none⟩,
     ⟨(some 13), .bin .add, [.t 12, .c (.int .i64 1)], none⟩,
     ⟨(some 9), .mov, [.t 13], none⟩])
    (AC.seq (AC.seq (AC.reg [
     ⟨(some 14), .mov, [.t 9], none⟩,
     ⟨(some 15), .mov, [.t 2], none⟩,
     ⟨(some 16), .bin .geq, [.t 14, .t 15], none⟩])
    (AC.cond (.t 16)
     (AC.exit 0)
     AC.skip))
    (AC.seq (AC.seq (AC.par
     (PT.step 0 ⟨(some 17), .mov, [.t 9], none⟩
     (PT.step 1 ⟨(some 18), .bin .add, [.t 17, .c (.int .i64 1)], none⟩
     (PT.step 2 ⟨(some 19), .mov, [.t 2], none⟩
     (PT.step 3 ⟨(some 20), .bin .lss, [.t 18, .t 19], none⟩
     (PT.step 4 ⟨(some 21), .mov, [.t 20], none⟩
     (PT.step 5 ⟨(some 22), .mov, [.t 0], (some (21, true))⟩
     (PT.step 6 ⟨(some 23), .mov, [.t 3], (some (21, true))⟩
     (PT.step 7 ⟨(some 24), .mov, [.t 9], (some (21, true))⟩
     (PT.step 8 ⟨(some 25), .bin .add, [.t 23, .t 24], (some (21, true))⟩
     (PT.step 11 ⟨(some 28), .mov, [.t 0], (some (21, true))⟩
     (PT.step 12 ⟨(some 29), .mov, [.t 3], (some (21, true))⟩
     (PT.step 13 ⟨(some 30), .mov, [.t 9], (some (21, true))⟩
     (PT.step 14 ⟨(some 31), .bin .add, [.t 29, .t 30], (some (21, true))⟩
     (PT.step 15 ⟨(some 32), .bin .add, [.t 31, .c (.int .i64 1)], (some (21, true))⟩
     (PT.step 9 ⟨(some 26), .idxp 1, [.t 22, .t 25], (some (21, true))⟩
     (PT.step 10 ⟨(some 27), .load false 1, [.t 26], (some (21, true))⟩
     (PT.step 16 ⟨(some 33), .idxp 1, [.t 28, .t 32], (some (21, true))⟩
     (PT.step 17 ⟨(some 34), .load false 1, [.t 33], (some (21, true))⟩
     (PT.step 18 ⟨(some 35), .call 87, [.t 27, .t 34], (some (21, true))⟩
     (PT.step 19 ⟨(some 36), .pick, [.t 21, .t 35, .c (.bool false)], none⟩
     PT.done)))))))))))))))))))))
    (AC.cond (.t 36)
     (AC.reg [
      ⟨(some 37), .mov, [.t 9], none⟩,
      ⟨(some 38), .bin .add, [.t 37, .c (.int .i64 1)], none⟩,
      ⟨(some 9), .mov, [.t 38], none⟩])
     AC.skip))
    (AC.seq (AC.seq (AC.par
     (PT.step 0 ⟨(some 39), .mov, [.t 0], none⟩
     (PT.step 1 ⟨(some 40), .mov, [.t 3], none⟩
     (PT.step 2 ⟨(some 41), .mov, [.t 8], none⟩
     (PT.step 3 ⟨(some 42), .bin .add, [.t 40, .t 41], none⟩
     (PT.step 6 ⟨(some 45), .mov, [.t 0], none⟩
     (PT.step 7 ⟨(some 46), .mov, [.t 3], none⟩
     (PT.step 8 ⟨(some 47), .mov, [.t 9], none⟩
     (PT.step 9 ⟨(some 48), .bin .add, [.t 46, .t 47], none⟩
     (PT.step 4 ⟨(some 43), .idxp 1, [.t 39, .t 42], none⟩
     (PT.step 5 ⟨(some 44), .load false 1, [.t 43], none⟩
     (PT.step 10 ⟨(some 49), .idxp 1, [.t 45, .t 48], none⟩
     (PT.step 11 ⟨(some 50), .load false 1, [.t 49], none⟩
     (PT.step 12 ⟨(some 51), .call 87, [.t 44, .t 50], none⟩
     (PT.step 13 ⟨(some 52), .un .not, [.t 51], none⟩
     PT.done)))))))))))))))
    (AC.cond (.t 52)
     AC.ret
     AC.skip))
    (AC.seq (AC.par
     (PT.step 0 ⟨(some 53), .mov, [.t 0], none⟩
     (PT.step 1 ⟨(some 54), .mov, [.t 3], none⟩
     (PT.step 2 ⟨(some 55), .mov, [.t 8], none⟩
     (PT.step 3 ⟨(some 56), .bin .add, [.t 54, .t 55], none⟩
     (PT.step 4 ⟨(some 57), .mov, [.t 0], none⟩
     (PT.step 5 ⟨(some 58), .mov, [.t 3], none⟩
     (PT.step 6 ⟨(some 59), .mov, [.t 9], none⟩
     (PT.step 7 ⟨(some 60), .bin .add, [.t 58, .t 59], none⟩
     (PT.step 8 ⟨(some 61), .mov, [.t 0], none⟩
     (PT.step 9 ⟨(some 62), .mov, [.t 3], none⟩
     (PT.step 10 ⟨(some 63), .mov, [.t 9], none⟩
     (PT.step 11 ⟨(some 64), .bin .add, [.t 62, .t 63], none⟩
     (PT.step 14 ⟨(some 67), .mov, [.t 0], none⟩
     (PT.step 15 ⟨(some 68), .mov, [.t 3], none⟩
     (PT.step 16 ⟨(some 69), .mov, [.t 8], none⟩
     (PT.step 17 ⟨(some 70), .bin .add, [.t 68, .t 69], none⟩
     (PT.step 12 ⟨(some 65), .idxp 1, [.t 61, .t 64], none⟩
     (PT.step 13 ⟨(some 66), .load false 1, [.t 65], none⟩
     (PT.step 18 ⟨(some 71), .idxp 1, [.t 67, .t 70], none⟩
     (PT.step 19 ⟨(some 72), .load false 1, [.t 71], none⟩
     (PT.step 20 ⟨(some 73), .idxp 1, [.t 53, .t 56], none⟩
     (PT.step 21 ⟨none, .store 1, [.t 73, .t 66], none⟩
     (PT.step 22 ⟨(some 74), .idxp 1, [.t 57, .t 60], none⟩
     (PT.step 23 ⟨none, .store 1, [.t 74, .t 72], none⟩
     PT.done)))))))))))))))))))))))))
    (AC.reg [
     ⟨(some 75), .mov, [.t 9], none⟩,
     ⟨(some 8), .mov, [.t 75], none⟩]))))))))))
def r114 : AC × List RT × Nat := (c114, [], 76)
theorem ok114e : compF Tryz.prog Tryz.f114 ⟨true, false, []⟩ = some r114 := by kernel_rfl
/- slices.heapSortOrdered[uint16] -/
def c82 : AC := (AC.seq (AC.reg [
  ⟨(some 11), .mov, [.t 1], none⟩,
  ⟨(some 6), .mov, [.t 11], none⟩])
 (AC.seq (AC.reg [
  ⟨(some 7), .mov, [.c (.int .i64 0)], none⟩])
 (AC.seq (AC.reg [
  ⟨(some 12), .mov, [.t 2], none⟩,
  ⟨(some 13), .mov, [.t 1], none⟩,
  ⟨(some 14), .bin .sub, [.t 12, .t 13], none⟩,
  ⟨(some 8), .mov, [.t 14], none⟩])
 (AC.seq (AC.seq (AC.reg [
  ⟨(some 15), .mov, [.t 8], none⟩,
  ⟨(some 16), .bin .sub, [.t 15, .c (.int .i64 1)], none⟩,
  ⟨(some 17), .bin .quo, [.t 16, .c (.int .i64 2)], none⟩,
  ⟨(some 9), .mov, [.t 17], none⟩])
 (AC.block 0
  (AC.loop
   (AC.seq (AC.seq (AC.reg [
    ⟨(some 18), .mov, [.t 9], none⟩,
    ⟨(some 19), .bin .geq, [.t 18, .c (.int .i64 0)], none⟩])
   (AC.cond (.t 19)
    AC.skip
    (AC.exit 0)))
   (AC.seq (AC.block 1
    (AC.reg [
     ⟨(some 22), .mov, [.t 0], none⟩,
     ⟨(some 23), .mov, [.t 9], none⟩,
     ⟨(some 24), .mov, [.t 8], none⟩,
     ⟨(some 25), .mov, [.t 6], none⟩,
     ⟨(some 26), .call 114, [.t 22, .t 23, .t 24, .t 25], none⟩]))
   (AC.reg [
    ⟨(some 20), .mov, [.t 9], none⟩,
    ⟨(some 21), .bin .sub, [.t 20, .c (.int .i64 1)], none⟩,
    ⟨(some 9), .mov, [.t 21], none⟩]))))))
 (AC.seq (AC.reg [
  ⟨(some 27), .mov, [.t 8], none⟩,
  ⟨(some 28), .bin .sub, [.t 27, .c (.int .i64 1)], none⟩,
  ⟨(some 10), .mov, [.t 28], none⟩])
 (AC.block 2
  (AC.loop
   (AC.seq (AC.seq (AC.reg [
    ⟨(some 29), .mov, [.t 10], none⟩,
    ⟨(some 30), .bin .geq, [.t 29, .c (.int .i64 0)], none⟩])
   (AC.cond (.t 30)
    AC.skip
    (AC.exit 2)))
   (AC.seq (AC.block 3
    (AC.seq (AC.par
     (PT.step 0 ⟨(some 33), .mov, [.t 0], none⟩
     (PT.step 1 ⟨(some 34), .mov, [.t 6], none⟩
     (PT.step 2 ⟨(some 35), .mov, [.t 0], none⟩
     (PT.step 3 ⟨(some 36), .mov, [.t 6], none⟩
     (PT.step 4 ⟨(some 37), .mov, [.t 10], none⟩
     (PT.step 5 ⟨(some 38), .bin .add, [.t 36, .t 37], none⟩
     (PT.step 6 ⟨(some 39), .mov, [.t 0], none⟩
     (PT.step 7 ⟨(some 40), .mov, [.t 6], none⟩
     (PT.step 8 ⟨(some 41), .mov, [.t 10], none⟩
     (PT.step 9 ⟨(some 42), .bin .add, [.t 40, .t 41], none⟩
     (PT.step 12 ⟨(some 45), .mov, [.t 0], none⟩
     (PT.step 13 ⟨(some 46), .mov, [.t 6], none⟩
     (PT.step 10 ⟨(some 43), .idxp 1, [.t 39, .t 42], none⟩
     (PT.step 11 ⟨(some 44), .load false 1, [.t 43], none⟩
     (PT.step 14 ⟨(some 47), .idxp 1, [.t 45, .t 46], none⟩
     (PT.step 15 ⟨(some 48), .load false 1, [.t 47], none⟩
     (PT.step 16 ⟨(some 49), .idxp 1, [.t 33, .t 34], none⟩
     (PT.step 17 ⟨none, .store 1, [.t 49, .t 44], none⟩
     (PT.step 18 ⟨(some 50), .idxp 1, [.t 35, .t 38], none⟩
     (PT.step 19 ⟨none, .store 1, [.t 50, .t 48], none⟩
     PT.done)))))))))))))))))))))
    (AC.reg [
     ⟨(some 51), .mov, [.t 0], none⟩,
     ⟨(some 52), .mov, [.t 7], none⟩,
     ⟨(some 53), .mov, [.t 10], none⟩,
     ⟨(some 54), .mov, [.t 6], none⟩,
     ⟨(some 55), .call 114, [.t 51, .t 52, .t 53, .t 54], none⟩])))
   (AC.reg [
    ⟨(some 31), .mov, [.t 10], none⟩,
    ⟨(some 32), .bin .sub, [.t 31, .c (.int .i64 1)], none⟩,
    ⟨(some 10), .mov, [.t 32], none⟩]))))))))))
def r82 : AC × List RT × Nat := (c82, [], 56)
theorem ok82e : compF Tryz.prog Tryz.f82 ⟨true, false, []⟩ = some r82 := by kernel_rfl
/- slices.reverseRangeOrdered[uint16] -/
def c85 : AC := (AC.seq (AC.reg [
  ⟨(some 8), .mov, [.t 1], none⟩,
  ⟨(some 6), .mov, [.t 8], none⟩])
 (AC.seq (AC.reg [
  ⟨(some 9), .mov, [.t 2], none⟩,
  ⟨(some 10), .bin .sub, [.t 9, .c (.int .i64 1)], none⟩,
  ⟨(some 7), .mov, [.t 10], none⟩])
 (AC.block 0
  (AC.loop
   (AC.seq (AC.seq (AC.reg [
    ⟨(some 11), .mov, [.t 6], none⟩,
    ⟨(some 12), .mov, [.t 7], none⟩,
    ⟨(some 13), .bin .lss, [.t 11, .t 12], none⟩])
   (AC.cond (.t 13)
    AC.skip
    (AC.exit 0)))
   (AC.block 1
    (AC.seq (AC.par
     (PT.step 0 ⟨(some 14), .mov, [.t 0], none⟩
     (PT.step 1 ⟨(some 15), .mov, [.t 6], none⟩
     (PT.step 2 ⟨(some 16), .mov, [.t 0], none⟩
     (PT.step 3 ⟨(some 17), .mov, [.t 7], none⟩
     (PT.step 4 ⟨(some 18), .mov, [.t 0], none⟩
     (PT.step 5 ⟨(some 19), .mov, [.t 7], none⟩
     (PT.step 8 ⟨(some 22), .mov, [.t 0], none⟩
     (PT.step 9 ⟨(some 23), .mov, [.t 6], none⟩
     (PT.step 6 ⟨(some 20), .idxp 1, [.t 18, .t 19], none⟩
     (PT.step 7 ⟨(some 21), .load false 1, [.t 20], none⟩
     (PT.step 10 ⟨(some 24), .idxp 1, [.t 22, .t 23], none⟩
     (PT.step 11 ⟨(some 25), .load false 1, [.t 24], none⟩
     (PT.step 12 ⟨(some 26), .idxp 1, [.t 14, .t 15], none⟩
     (PT.step 13 ⟨none, .store 1, [.t 26, .t 21], none⟩
     (PT.step 14 ⟨(some 27), .idxp 1, [.t 16, .t 17], none⟩
     (PT.step 15 ⟨none, .store 1, [.t 27, .t 25], none⟩
     PT.done)))))))))))))))))
    (AC.seq (AC.reg [
     ⟨(some 28), .mov, [.t 6], none⟩,
     ⟨(some 29), .bin .add, [.t 28, .c (.int .i64 1)], none⟩,
     ⟨(some 6), .mov, [.t 29], none⟩])
    (AC.reg [
     ⟨(some 30), .mov, [.t 7], none⟩,
     ⟨(some 31), .bin .sub, [.t 30, .c (.int .i64 1)], none⟩,
     ⟨(some 7), .mov, [.t 31], none⟩])))))))))
def r85 : AC × List RT × Nat := (c85, [], 32)
theorem ok85e : compF Tryz.prog Tryz.f85 ⟨true, false, []⟩ = some r85 := by kernel_rfl
variable {E : Env}
theorem isNaN_c (hP : E.P = Tryz.prog) (W : AW) (a : Int) : ACalls E 119 [.int .u16 a] W fun X W' => X = .bool false ∧ W' = W := by
  refine ACalls.of hP Tryz.func119 ok119e (by simp) fun _ _ => ?_
  simp only [c119, e_seq, e_reg, e_ret, e_cons, e_nil, e_plain, evs_nil, evs_cons, ev_t, ev_c, argsA_ap, e_putK, e_putd, e_put, e_then, retQ_ret, e_res1, ↓reduceIte, Nat.reduceEqDiff, reduceCtorEq, Option.map_some, List.getElem?_cons_zero, frz_bool, sem_mov, sem_neq]
  exact ⟨_, rfl, _, _, .weak weak_id, Nat.le_refl _, by simp, rfl⟩
theorem less_c (hP : E.P = Tryz.prog) (W : AW) (a b : Int) : ACalls E 87 [.int .u16 a, .int .u16 b] W fun X W' => X = .bool (decide (a < b)) ∧ W' = W := by
  refine ACalls.of hP Tryz.func87 ok87e (by simp) fun _ _ => ?_
  simp only [c87, e_seq, e_reg, e_cons, e_nil, e_plain, evs_nil, evs_cons, ev_t, ev_c, argsA_ap, e_putK, e_putd, e_put, e_then, ↓reduceIte, reduceCtorEq, List.map_cons, List.map_nil, List.getElem?_cons_zero, frz_int, sem_mov, sem_call]
  refine (isNaN_c hP W _).mono ?_
  rintro X W' ⟨rfl, rfl⟩
  simp only [e_ret, e_cons, e_nil, e_plain, guard_if, evs_nil, evs_cons, ev_t, ev_c, argsA_ap, e_putK, e_putd, e_put, retQ_ret, e_res1, ↓reduceIte, Nat.reduceEqDiff, reduceCtorEq, Option.map_some, List.getElem?_cons_zero, List.getElem?_cons_succ, Bool.false_eq_true, frz_bool, sem_mov, sem_pick, sem_lss]
  exact ⟨_, rfl, _, _, .weak weak_id, Nat.le_refl _, rfl, rfl⟩

/-! an array of numbers that is written in place -/
def cellsI (d : Array Int) : List V := d.toList.map (V.int .u16)
theorem cellsI_len (d : Array Int) : (cellsI d).length = d.size := by simp [cellsI]
theorem part_cellsI {d : Array Int} {i : Nat} (h : i < d.size) : partV (cellsI d) i 1 false = some (.int .u16 d[i]!) := by
  simp [partV, cellsI, h]
def pv (W : AW) (r : Nat) (d : Array Int) : AW := W.put r (.vec 1 (cellsI d))
theorem pv_get {W : AW} {r : Nat} {d : Array Int} : (pv W r d).get r = some (.vec 1 (cellsI d)) := by simp [pv, AW.put]
theorem pv_nx {W : AW} {r : Nat} {d : Array Int} : (pv W r d).nx = W.nx := id rfl
theorem pv_pv {W : AW} {r : Nat} {d d' : Array Int} : pv (pv W r d) r d' = pv W r d' := by
  simp only [pv, AW.put, AW.mk.injEq, and_true]
  funext x
  by_cases h : x = r <;> simp [h]
theorem pv_self {W : AW} {r : Nat} {d : Array Int} (h : W.get r = some (.vec 1 (cellsI d))) : pv W r d = W := put_same h
theorem ix {W : AW} {K : V → AW → Prop} {r n i : Nat} (h : i < n) : sem E (.idxp 1) [.slr r 0 n 1, .int .i64 (i : Int)] W K = K (.vptr r i) W := by
  rw [sem_idxp_slr (by omega) (by omega)]; simp
theorem ld {W : AW} {K : V → AW → Prop} {r i : Nat} {d : Array Int} (h : i < d.size) : sem E (.load false 1) [.vptr r i] (pv W r d) K = K (.int .u16 d[i]!) (pv W r d) :=
  sem_load_vec pv_get (part_cellsI h)
theorem st {W : AW} {K : V → AW → Prop} {r i : Nat} {d : Array Int} {v : Int} (h : i < d.size) : sem E (.store 1) [.vptr r i, .int .u16 v] (pv W r d) K = K .undef (pv W r (d.setIfInBounds i v)) := by
  rw [sem_store_vec (s := 1) (x := .int .u16 v) pv_get rfl rfl (by rw [cellsI_len]; omega)]
  congr 1
  show (pv W r d).put r _ = _
  rw [show (pv W r d).put r (.vec 1 ((cellsI d).take i ++ (V.int .u16 v).cells ++ (cellsI d).drop (i + 1))) = W.put r (.vec 1 ((cellsI d).take i ++ (V.int .u16 v).cells ++ (cellsI d).drop (i + 1))) from by
    simp only [pv, AW.put, AW.mk.injEq, and_true]
    funext x
    by_cases h : x = r <;> simp [h]]
  have e : (cellsI d).take i ++ (V.int .u16 v).cells ++ (cellsI d).drop (i + 1) = cellsI (d.setIfInBounds i v) := by
    have : (V.int .u16 v).cells = [V.int .u16 v] := rfl
    rw [this, show (cellsI d).take i ++ [V.int .u16 v] ++ (cellsI d).drop (i + 1) = (cellsI d).set i (V.int .u16 v) from by
      rw [List.set_eq_take_append_cons_drop, if_pos (by rw [cellsI_len]; exact h)]; simp]
    simp [cellsI, List.map_set]
  rw [e]; rfl
theorem sz_set {d : Array Int} {i : Nat} {v : Int} : (d.setIfInBounds i v).size = d.size := by simp
theorem sw {d : Array Int} {i j : Nat} : (d.setIfInBounds i d[j]!).setIfInBounds j d[i]! = swp d i j := id rfl
/-! arithmetic of indices -/
theorem wn {n : Nat} (h : n < 2 ^ 63) : IntKind.i64.wrap (n : Int) = n := IntWalk.i64_in _ (by omega)
theorem wadd {a b : Nat} (h : a + b < 2 ^ 63) : IntKind.i64.wrap ((a : Int) + (b : Int)) = ((a + b : Nat) : Int) := by rw [← wn h]; congr 1
theorem wadd1 {a : Nat} (h : a + 1 < 2 ^ 63) : IntKind.i64.wrap ((a : Int) + 1) = ((a + 1 : Nat) : Int) := by rw [← wn h]; congr 1
theorem wsub {a b : Nat} (h : b ≤ a) (h' : a < 2 ^ 63) : IntKind.i64.wrap ((a : Int) - (b : Int)) = ((a - b : Nat) : Int) := by rw [← wn (show a - b < 2 ^ 63 by omega)]; congr 1; omega
theorem wsub1 {a : Nat} (h : 1 ≤ a) (h' : a < 2 ^ 63) : IntKind.i64.wrap ((a : Int) - 1) = ((a - 1 : Nat) : Int) := by rw [← wn (show a - 1 < 2 ^ 63 by omega)]; congr 1; omega
theorem wmul2 {a : Nat} (h : 2 * a < 2 ^ 63) : IntKind.i64.wrap (2 * (a : Int)) = ((2 * a : Nat) : Int) := by rw [← wn h]; congr 1
theorem clt {a b : Nat} : decide ((a : Int) < (b : Int)) = decide (a < b) := by simp
theorem cge {a b : Nat} : decide ((a : Int) ≥ (b : Int)) = decide (a ≥ b) := by simp
theorem cgt {a b : Nat} : decide ((a : Int) > (b : Int)) = decide (a > b) := by simp
theorem cle {a b : Nat} : decide ((a : Int) ≤ (b : Int)) = decide (a ≤ b) := by simp
theorem frz_vptr {W : AW} {r o : Nat} : W.frz (.vptr r o) = .vptr r o := id rfl

theorem reverseRange_c (hP : E.P = Tryz.prog) (W : AW) (r n a b : Nat) (d : Array Int) (hn : d.size = n) (hb : b ≤ n) (hb1 : 1 ≤ b) (hsm : n < 2 ^ 48) :
    ACalls E 85 [.slr r 0 n 1, .int .i64 a, .int .i64 b] (pv W r d) fun X W' => X = .tuple [] ∧ W' = pv W r (reverseRange d a b) := by
  refine ACalls.of hP Tryz.func85 ok85e (by simp) fun _ _ => ?_
  simp (disch := omega) only [c85, e_seq, e_reg, e_block, e_cons, e_nil, e_plain, evs_nil, evs_cons, ev_t, ev_c, argsA_ap, e_putK, e_putd, e_put, e_then, ↓reduceIte, Nat.reduceEqDiff, List.getElem?_cons_zero, List.getElem?_cons_succ, sem_mov, sem_sub, wsub1, e_loop]
  refine ALoop.go (B := awp E _) (fun h => awp_mono _ h) (fun (s : Nat × Nat × Array Int) A1 W1 => A1 0 = some (.slr r 0 n 1) ∧ A1 6 = some (.int .i64 s.1) ∧ A1 7 = some (.int .i64 s.2.1) ∧
    W1 = pv W r s.2.2 ∧ s.2.1 < n ∧ s.2.2.size = n ∧ reverseLoop s.1 s.2.1 s.2.2 = reverseRange d a b) (fun s => s.2.1 - s.1) (a, b - 1, d)
    ⟨rfl, rfl, rfl, rfl, by simp; omega, hn, rfl⟩ ?_
  rintro ⟨i, j, d1⟩ A1 W1 ⟨g0, g6, g7, rfl, gj, gs, gt⟩ _
  simp only at g6 g7 gj gs gt
  simp only [e_seq, e_reg, cond_if, e_block, e_exit, e_skip, e_par, e_step, e_cons, e_nil, e_plain, evs_nil, evs_cons, ev_t, e_putK, e_putd, e_put, e_then, e_then_exit, e_blk_exit, retQ_normal, e_res0, ↓reduceIte, Nat.reduceEqDiff, reduceCtorEq, sem_mov, sem_lss, g0, g6, g7, clt]
  by_cases h : i < j
  · simp (disch := (try simp only [sz_set]) <;> omega) only [e_seq, e_reg, e_done, e_step, e_cons, e_nil, e_plain, evs_nil, evs_cons, ev_t, ev_c, e_putK, e_putd, e_putd0, e_put, e_then, e_blk, ↓reduceIte, Nat.reduceEqDiff, reduceCtorEq, sem_mov, sem_add, sem_sub, h, decide_true, g0, g6, g7, ix, ld, st, wadd1, wsub1, sw]
    refine ⟨(i + 1, j - 1, swp d1 i j), ⟨trivial, rfl, rfl, rfl, by simp; omega, by simp [swp, gs], ?_⟩, by simp; omega, Nat.le_refl _⟩
    rw [← gt, reverseLoop.eq_def i j d1, if_pos h]
  · simp only [↓reduceIte, Bool.false_eq_true, h, decide_false]
    refine ⟨_, rfl, _, _, .weak weak_id, Nat.le_refl _, rfl, ?_⟩
    rw [← gt, reverseLoop, if_neg h]

theorem siftDown_c (hP : E.P = Tryz.prog) (W : AW) (r n lo hi first : Nat) (d : Array Int) (hn : d.size = n) (hh : first + hi ≤ n) (hlo : lo ≤ n) (hsm : n < 2 ^ 48) :
    ACalls E 114 [.slr r 0 n 1, .int .i64 lo, .int .i64 hi, .int .i64 first] (pv W r d) fun X W' => X = .tuple [] ∧ W' = pv W r (siftDown ltInt hi first lo d) := by
  refine ACalls.of hP Tryz.func114 ok114e (by simp) fun _ _ => ?_
  simp only [c114, e_seq, e_reg, e_block, e_cons, e_nil, e_plain, evs_nil, evs_cons, ev_t, argsA_ap, e_putK, e_putd, e_put, e_then, ↓reduceIte, List.getElem?_cons_zero, List.getElem?_cons_succ, sem_mov, e_loop]
  refine ALoop.go (B := awp E _) (fun h => awp_mono _ h) (fun (s : Nat × Array Int) A1 W1 => A1 0 = some (.slr r 0 n 1) ∧ A1 2 = some (.int .i64 hi) ∧ A1 3 = some (.int .i64 first) ∧ A1 8 = some (.int .i64 s.1) ∧
    W1 = pv W r s.2 ∧ s.1 ≤ n ∧ s.2.size = n ∧ siftDown ltInt hi first s.1 s.2 = siftDown ltInt hi first lo d) (fun s => n - s.1) (lo, d)
    ⟨rfl, rfl, rfl, rfl, rfl, hlo, hn, rfl⟩ ?_
  rintro ⟨root, d1⟩ A1 W1 ⟨g0, g2, g3, g8, rfl, gr, gs, gt⟩ _
  simp only at g8 gr gs gt
  rw [siftDown.eq_def ltInt hi first root d1] at gt
  by_cases h1 : 2 * root + 1 ≥ hi
  · simp (disch := omega) only [e_seq, e_reg, cond_if, e_block, e_exit, e_cons, e_nil, e_plain, evs_nil, evs_cons, ev_t, ev_c, e_putK, e_putd, e_put, e_then, e_then_exit, e_blk_exit, retQ_normal, e_res0, ↓reduceIte, Nat.reduceEqDiff, reduceCtorEq, sem_mov, sem_add, sem_mul, sem_geq, g2, g8, wmul2, wadd1, cge, h1, decide_true]
    rw [dif_pos h1] at gt
    exact ⟨_, rfl, _, _, .weak weak_id, Nat.le_refl _, rfl, by rw [← gt]⟩
  rw [dif_neg h1] at gt
  have fin : ∀ c, root < c → c < hi → (if !ltInt d1[first + root]! d1[first + c]! then d1 else siftDown ltInt hi first c (swp d1 (first + root) (first + c))) = siftDown ltInt hi first lo d →
      (¬ d1[first + root]! < d1[first + c]! → d1 = siftDown ltInt hi first lo d) ∧ (d1[first + root]! < d1[first + c]! → siftDown ltInt hi first c (swp d1 (first + root) (first + c)) = siftDown ltInt hi first lo d) := by
    intro c _ _ h
    by_cases h4 : d1[first + root]! < d1[first + c]!
    · simp [ltInt, h4] at h; exact ⟨fun h' => absurd h4 h', fun _ => h⟩
    · simp [ltInt, h4] at h; exact ⟨fun _ => h, fun h' => absurd h' h4⟩
  by_cases h2 : 2 * root + 1 + 1 < hi
  · simp (disch := omega) only [e_seq, e_reg, cond_if, e_block, e_skip, e_par, e_step, e_cons, e_nil, e_plain, guard_if, evs_nil, evs_cons, ev_t, ev_c, e_putK, e_putd, e_put, e_then, ↓reduceIte, Nat.reduceEqDiff, reduceCtorEq, List.map_cons, List.map_nil, Bool.false_eq_true, frz_int, sem_mov, sem_add, sem_mul, sem_lss, sem_geq, sem_call, h1, decide_false, h2, decide_true, g0, g2, g3, g8, wmul2, wadd1, wadd, cge, clt, ix, ld]
    refine (less_c hP _ _ _).mono ?_
    rintro X W' ⟨rfl, rfl⟩
    by_cases h3 : d1[first + (2 * root + 1)]! < d1[first + (2 * root + 1) + 1]!
    · obtain ⟨c, hc⟩ : ∃ c, c = 2 * root + 2 := ⟨_, rfl⟩
      have wc : IntKind.i64.wrap (((2 * root + 1 : Nat) : Int) + 1) = (c : Int) := by rw [wadd1 (by omega), hc]
      rw [if_pos (by simp [h2, ltInt, h3])] at gt
      have f := fin c (by omega) (by omega) (by rw [← gt, hc, dif_pos (by omega)])
      simp (disch := omega) only [e_seq, e_reg, cond_if, e_par, e_done, e_step, e_cons, e_nil, e_plain, evs_nil, evs_cons, ev_t, ev_c, e_putK, e_putd, e_put, e_then, ↓reduceIte, Nat.reduceEqDiff, reduceCtorEq, List.map_cons, List.map_nil, frz_int, sem_mov, sem_pick, sem_add, sem_call, h3, decide_true, g0, g3, g8, wc, wadd, ix, ld]
      refine (less_c hP _ _ _).mono ?_
      rintro X W' ⟨rfl, rfl⟩
      by_cases h4 : d1[first + root]! < d1[first + c]!
      · simp (disch := (try simp only [sz_set]) <;> omega) only [e_seq, e_reg, cond_if, e_skip, e_par, e_done, e_step, e_cons, e_nil, e_plain, evs_nil, evs_cons, ev_t, e_putK, e_putd, e_putd0, e_put, e_then, e_blk, ↓reduceIte, Nat.reduceEqDiff, reduceCtorEq, Bool.false_eq_true, sem_mov, sem_add, sem_not, h4, decide_true, Bool.not_true, g0, g2, g3, g8, wadd, ix, ld, st, sw]
        exact ⟨(c, swp d1 (first + root) (first + c)), ⟨trivial, trivial, trivial, rfl, rfl, by simp; omega, by simp [swp, gs], f.2 h4⟩, by simp; omega, Nat.le_refl _⟩
      · simp only [cond_if, e_ret, e_done, e_step, e_plain, evs_nil, evs_cons, ev_t, e_putK, e_putd, e_put, e_then_ret, e_blk_ret, retQ_ret, e_res0, ↓reduceIte, sem_not, h4, decide_false, Bool.not_false]
        exact ⟨_, rfl, _, _, .weak weak_id, Nat.le_refl _, rfl, by rw [← f.1 h4]⟩
    · obtain ⟨c, hc⟩ : ∃ c, c = 2 * root + 1 := ⟨_, rfl⟩
      rw [if_neg (by simp [h2, ltInt, h3])] at gt
      have f := fin c (by omega) (by omega) (by rw [← gt, hc])
      rw [← hc] at h3
      simp (disch := omega) only [e_seq, cond_if, e_skip, e_par, e_done, e_step, e_plain, evs_nil, evs_cons, ev_t, ev_c, e_putK, e_putd, e_put, e_then, ↓reduceIte, Nat.reduceEqDiff, reduceCtorEq, List.map_cons, List.map_nil, Bool.false_eq_true, frz_int, sem_mov, sem_pick, sem_add, sem_call, h3, decide_false, g0, g3, g8, ← hc, wadd, ix, ld]
      refine (less_c hP _ _ _).mono ?_
      rintro X W' ⟨rfl, rfl⟩
      by_cases h4 : d1[first + root]! < d1[first + c]!
      · simp (disch := (try simp only [sz_set]) <;> omega) only [e_seq, e_reg, cond_if, e_skip, e_par, e_done, e_step, e_cons, e_nil, e_plain, evs_nil, evs_cons, ev_t, e_putK, e_putd, e_putd0, e_put, e_then, e_blk, ↓reduceIte, Nat.reduceEqDiff, reduceCtorEq, Bool.false_eq_true, sem_mov, sem_add, sem_not, h4, decide_true, Bool.not_true, g0, g2, g3, g8, wadd, ix, ld, st, sw]
        exact ⟨(c, swp d1 (first + root) (first + c)), ⟨trivial, trivial, trivial, rfl, rfl, by simp; omega, by simp [swp, gs], f.2 h4⟩, by simp; omega, Nat.le_refl _⟩
      · simp only [cond_if, e_ret, e_done, e_step, e_plain, evs_nil, evs_cons, ev_t, e_putK, e_putd, e_put, e_then_ret, e_blk_ret, retQ_ret, e_res0, ↓reduceIte, sem_not, h4, decide_false, Bool.not_false]
        exact ⟨_, rfl, _, _, .weak weak_id, Nat.le_refl _, rfl, by rw [← f.1 h4]⟩
  · obtain ⟨c, hc⟩ : ∃ c, c = 2 * root + 1 := ⟨_, rfl⟩
    rw [if_neg (by simp [h2])] at gt
    have f := fin c (by omega) (by omega) (by rw [← gt, hc])
    rw [← hc] at h1 h2
    simp (disch := omega) only [e_seq, e_reg, cond_if, e_block, e_skip, e_par, e_done, e_step, e_cons, e_nil, e_plain, guard_if, evs_nil, evs_cons, ev_t, ev_c, e_putK, e_putd, e_put, e_then, ↓reduceIte, Nat.reduceEqDiff, reduceCtorEq, List.map_cons, List.map_nil, Bool.false_eq_true, frz_int, sem_mov, sem_pick, sem_add, sem_mul, sem_lss, sem_geq, sem_call, h1, decide_false, h2, g0, g2, g3, g8, wmul2, wadd1, wadd, cge, clt, ← hc, ix, ld]
    refine (less_c hP _ _ _).mono ?_
    rintro X W' ⟨rfl, rfl⟩
    by_cases h4 : d1[first + root]! < d1[first + c]!
    · simp (disch := (try simp only [sz_set]) <;> omega) only [e_seq, e_reg, cond_if, e_skip, e_par, e_done, e_step, e_cons, e_nil, e_plain, evs_nil, evs_cons, ev_t, e_putK, e_putd, e_putd0, e_put, e_then, e_blk, ↓reduceIte, Nat.reduceEqDiff, reduceCtorEq, Bool.false_eq_true, sem_mov, sem_add, sem_not, h4, decide_true, Bool.not_true, g0, g2, g3, g8, wadd, ix, ld, st, sw]
      exact ⟨(c, swp d1 (first + root) (first + c)), ⟨trivial, trivial, trivial, rfl, rfl, by simp; omega, by simp [swp, gs], f.2 h4⟩, by simp; omega, Nat.le_refl _⟩
    · simp only [cond_if, e_ret, e_done, e_step, e_plain, evs_nil, evs_cons, ev_t, e_putK, e_putd, e_put, e_then_ret, e_blk_ret, retQ_ret, e_res0, ↓reduceIte, sem_not, h4, decide_false, Bool.not_false]
      exact ⟨_, rfl, _, _, .weak weak_id, Nat.le_refl _, rfl, by rw [← f.1 h4]⟩

theorem quoN {W : AW} {K : V → AW → Prop} {n : Nat} (c : Nat) (hc : 0 < c) (h : n < 2 ^ 63) : sem E (.bin .quo) [.int .i64 (n : Int), .int .i64 (c : Int)] W K = K (.int .i64 ((n / c : Nat) : Int)) W := by
  have h1 : ¬ ((c : Int) = 0) := by omega
  have h2 : (n : Int).tdiv (c : Int) = ((n / c : Nat) : Int) := by simp
  have h3 : n / c < 2 ^ 63 := Nat.lt_of_le_of_lt (Nat.div_le_self _ _) h
  have h4 : binI .quo .i64 n c = some (.int .i64 ((n / c : Nat) : Int)) := by simp only [binI, h1, ↓reduceIte, h2, wn h3]
  simp only [sem, rsem, tsem, ↓reduceIte, h4]
theorem quo2 {W : AW} {K : V → AW → Prop} {n : Nat} (h : n < 2 ^ 63) : sem E (.bin .quo) [.int .i64 (n : Int), .int .i64 2] W K = K (.int .i64 ((n / 2 : Nat) : Int)) W := quoN 2 (by decide) h
theorem quo4 {W : AW} {K : V → AW → Prop} {n : Nat} (h : n < 2 ^ 63) : sem E (.bin .quo) [.int .i64 (n : Int), .int .i64 4] W K = K (.int .i64 ((n / 4 : Nat) : Int)) W := quoN 4 (by decide) h
theorem quo8 {W : AW} {K : V → AW → Prop} {n : Nat} (h : n < 2 ^ 63) : sem E (.bin .quo) [.int .i64 (n : Int), .int .i64 8] W K = K (.int .i64 ((n / 8 : Nat) : Int)) W := quoN 8 (by decide) h
theorem wsubm {k : Nat} (h : k < 2 ^ 63) : IntKind.i64.wrap ((k : Int) - 1) = (k : Int) - 1 := IntWalk.i64_in _ (by omega)
theorem cge0 {k : Nat} : decide ((k : Int) ≥ 0) = true := by simp
theorem succ_pred (k : Nat) : (((k + 1 : Nat) : Int) - 1) = (k : Int) := by omega
theorem siftDown_size (lt : Int → Int → Bool) (hi first : Nat) : ∀ (m root : Nat) (d : Array Int), hi - root ≤ m → (siftDown lt hi first root d).size = d.size := by
  intro m
  induction m with
  | zero => intro root d h; rw [siftDown.eq_def, dif_pos (by omega)]
  | succ m ih =>
    intro root d h
    rw [siftDown.eq_def]
    split
    · rfl
    split
    · split
      · rfl
      split
      · rw [ih _ _ (by omega)]; simp [swp]
      · rfl
    · split
      · rfl
      · rw [ih _ _ (by omega)]; simp [swp]

theorem heapSort_c (hP : E.P = Tryz.prog) (W : AW) (r n a b : Nat) (d : Array Int) (hn : d.size = n) (hab : a < b) (hb : b ≤ n) (hsm : n < 2 ^ 48) :
    ACalls E 82 [.slr r 0 n 1, .int .i64 a, .int .i64 b] (pv W r d) fun X W' => X = .tuple [] ∧ W' = pv W r (heapSort ltInt d a b) := by
  refine ACalls.of hP Tryz.func82 ok82e (by simp) fun _ _ => ?_
  obtain ⟨hi, hhi⟩ : ∃ hi, hi = b - a := ⟨_, rfl⟩
  simp (disch := omega) only [c82, e_seq, e_reg, e_block, e_cons, e_nil, e_plain, evs_nil, evs_cons, ev_t, ev_c, argsA_ap, e_putK, e_putd, e_put, e_then, ↓reduceIte, Nat.reduceEqDiff, List.getElem?_cons_zero, List.getElem?_cons_succ, sem_mov, sem_sub, e_loop, wsub, wsub1, quo2, ← hhi]
  refine ALoop.go (B := awp E _) (fun h => awp_mono _ h) (fun (s : Nat × Array Int) A1 W1 => A1 0 = some (.slr r 0 n 1) ∧ A1 6 = some (.int .i64 a) ∧ A1 7 = some (.int .i64 0) ∧ A1 8 = some (.int .i64 hi) ∧ A1 9 = some (.int .i64 ((s.1 : Int) - 1)) ∧
    W1 = pv W r s.2 ∧ s.1 ≤ n ∧ s.2.size = n ∧ heapPop ltInt a hi (heapBuild ltInt hi a s.1 s.2) = heapSort ltInt d a b) (fun s => s.1) ((hi - 1) / 2 + 1, d)
    ⟨rfl, rfl, rfl, rfl, by rw [succ_pred]; rfl, rfl, by simp; omega, hn, by rw [heapSort, hhi]⟩ ?_
  rintro ⟨k, d1⟩ A1 W1 ⟨g0, g6, g7, g8, g9, rfl, gk, gs, gt⟩ _
  simp only at g9 gk gs gt
  cases k with
  | succ k =>
    rw [succ_pred] at g9
    simp (disch := omega) only [e_seq, e_reg, cond_if, e_block, e_skip, e_cons, e_nil, e_plain, evs_nil, evs_cons, ev_t, ev_c, e_putK, e_putd, e_put, e_then, e_blk, ↓reduceIte, Nat.reduceEqDiff, reduceCtorEq, List.map_cons, List.map_nil, frz_int, frz_slr, sem_mov, sem_geq, sem_call, g0, g6, g8, g9, cge0]
    refine (siftDown_c hP W r n k hi a d1 gs (by omega) (by omega) hsm).mono ?_
    rintro X W' ⟨rfl, rfl⟩
    simp (disch := omega) only [e_reg, e_cons, e_nil, e_plain, evs_nil, evs_cons, ev_t, ev_c, e_putK, e_putd, e_put, e_then, ↓reduceIte, Nat.reduceEqDiff, reduceCtorEq, sem_mov, sem_sub, g0, g6, g7, g8, g9, wsubm]
    exact ⟨(k, siftDown ltInt hi a k d1), ⟨trivial, trivial, trivial, trivial, rfl, rfl, by simp; omega, by rw [siftDown_size _ _ _ _ _ _ (Nat.le_refl _), gs], gt⟩, by simp, Nat.le_refl _⟩
  | zero =>
    have c0 : decide ((((0 : Nat) : Int) - 1) ≥ 0) = false := by decide
    simp (disch := omega) only [e_seq, e_reg, cond_if, e_block, e_exit, e_cons, e_nil, e_plain, evs_nil, evs_cons, ev_t, ev_c, e_putK, e_putd, e_put, e_then, e_then_exit, e_blk_exit, ↓reduceIte, Nat.reduceEqDiff, Bool.false_eq_true, sem_mov, sem_sub, sem_geq, g8, g9, c0, wsubm, e_loop]
    refine ALoop.go (B := awp E _) (fun h => awp_mono _ h) (fun (s : Nat × Array Int) A1 W1 => A1 0 = some (.slr r 0 n 1) ∧ A1 6 = some (.int .i64 a) ∧ A1 7 = some (.int .i64 0) ∧ A1 10 = some (.int .i64 ((s.1 : Int) - 1)) ∧
      W1 = pv W r s.2 ∧ s.1 ≤ hi ∧ s.2.size = n ∧ heapPop ltInt a s.1 s.2 = heapSort ltInt d a b) (fun s => s.1) (hi, d1)
      ⟨g0, g6, g7, rfl, rfl, Nat.le_refl _, gs, gt⟩ ?_
    rintro ⟨k, d2⟩ A2 W2 ⟨q0, q6, q7, q10, rfl, qk, qs, qt⟩ _
    simp only at q10 qk qs qt
    cases k with
    | succ k =>
      rw [succ_pred] at q10
      have z : (0 : Int) = ((0 : Nat) : Int) := rfl
      simp (disch := (try simp only [sz_set]) <;> omega) only [e_seq, e_reg, cond_if, e_block, e_skip, e_par, e_done, e_step, e_cons, e_nil, e_plain, evs_nil, evs_cons, ev_t, ev_c, e_putK, e_putd, e_putd0, e_put, e_then, e_blk, ↓reduceIte, Nat.reduceEqDiff, reduceCtorEq, List.map_cons, List.map_nil, frz_int, frz_slr, sem_mov, sem_add, sem_geq, sem_call, q0, q6, q7, q10, cge0, wadd, ix, ld, st, sw]
      refine (siftDown_c hP W r n 0 k a (swp d2 a (a + k)) (by simp [swp, qs]) (by omega) (by omega) hsm).mono ?_
      rintro X W' ⟨rfl, rfl⟩
      simp (disch := omega) only [e_reg, e_cons, e_nil, e_plain, evs_nil, evs_cons, ev_t, ev_c, e_putK, e_putd, e_put, e_then, ↓reduceIte, Nat.reduceEqDiff, reduceCtorEq, sem_mov, sem_sub, q0, q6, q7, q10, wsubm]
      exact ⟨(k, siftDown ltInt k a 0 (swp d2 a (a + k))), ⟨trivial, trivial, trivial, rfl, rfl, by simp; omega, by rw [siftDown_size _ _ _ _ _ _ (Nat.le_refl _)]; simp [swp, qs], qt⟩, by simp, Nat.le_refl _⟩
    | zero =>
      have c0 : decide ((((0 : Nat) : Int) - 1) ≥ 0) = false := by decide
      simp (disch := omega) only [e_seq, e_reg, cond_if, e_exit, e_cons, e_nil, e_plain, evs_nil, evs_cons, ev_t, ev_c, e_putK, e_putd, e_put, e_then, e_then_exit, e_blk_exit, retQ_normal, e_res0, ↓reduceIte, Bool.false_eq_true, sem_mov, sem_geq, q10, c0]
      exact ⟨_, rfl, _, _, .weak weak_id, Nat.le_refl _, rfl, by rw [← qt]; rfl⟩
end Go.AL.S
set_option maxRecDepth 100000
namespace Go.AL.S
open Go Go.AL Go.Proofs Go.Sort
/- slices.order2Ordered[uint16] -/
def c134 : AC := (AC.seq (AC.reg [
  ⟨(some 8), .mov, [.c (.int .i64 0)], none⟩,
  ⟨(some 9), .mov, [.c (.int .i64 0)], none⟩])
 (AC.seq (AC.seq (AC.par
  (PT.step 0 ⟨(some 10), .mov, [.t 0], none⟩
  (PT.step 1 ⟨(some 11), .mov, [.t 2], none⟩
  (PT.step 4 ⟨(some 14), .mov, [.t 0], none⟩
  (PT.step 5 ⟨(some 15), .mov, [.t 1], none⟩
  (PT.step 2 ⟨(some 12), .idxp 1, [.t 10, .t 11], none⟩
  (PT.step 3 ⟨(some 13), .load false 1, [.t 12], none⟩
  (PT.step 6 ⟨(some 16), .idxp 1, [.t 14, .t 15], none⟩
  (PT.step 7 ⟨(some 17), .load false 1, [.t 16], none⟩
  (PT.step 8 ⟨(some 18), .call 87, [.t 13, .t 17], none⟩
  PT.done))))))))))
 (AC.cond (.t 18)
  (AC.seq (AC.reg [
   ⟨(some 19), .mov, [.t 3], none⟩,
   ⟨(some 20), .nilck, [.t 19], none⟩,
   ⟨(some 21), .load false 1, [.t 20], none⟩,
   ⟨(some 22), .bin .add, [.t 21, .c (.int .i64 1)], none⟩,
   ⟨(some 23), .nilck, [.t 19], none⟩,
   ⟨none, .store 1, [.t 23, .t 22], none⟩])
  (AC.seq (AC.reg [
   ⟨(some 24), .mov, [.t 2], none⟩,
   ⟨(some 25), .mov, [.t 1], none⟩,
   ⟨(some 8), .mov, [.t 24], none⟩,
   ⟨(some 9), .mov, [.t 25], none⟩])
  AC.ret))
  AC.skip))
 (AC.seq (AC.reg [
  ⟨(some 26), .mov, [.t 1], none⟩,
  ⟨(some 27), .mov, [.t 2], none⟩,
  ⟨(some 8), .mov, [.t 26], none⟩,
  ⟨(some 9), .mov, [.t 27], none⟩])
 AC.ret)))
def r134 : AC × List RT × Nat := (c134, [.tmp 8, .tmp 9], 28)
theorem ok134e : compF Tryz.prog Tryz.f134 ⟨true, false, []⟩ = some r134 := by kernel_rfl
/- slices.medianOrdered[uint16] -/
def c118 : AC := (AC.seq (AC.reg [
  ⟨(some 10), .mov, [.c (.int .i64 0)], none⟩])
 (AC.seq (AC.reg [
  ⟨(some 12), .mov, [.t 0], none⟩,
  ⟨(some 13), .mov, [.t 1], none⟩,
  ⟨(some 14), .mov, [.t 2], none⟩,
  ⟨(some 15), .mov, [.t 4], none⟩,
  ⟨(some 16), .call 134, [.t 12, .t 13, .t 14, .t 15], none⟩,
  ⟨(some 11), .mov, [.t 16], none⟩,
  ⟨(some 17), .ext 0, [.t 11], none⟩,
  ⟨(some 18), .ext 1, [.t 11], none⟩,
  ⟨(some 1), .mov, [.t 17], none⟩,
  ⟨(some 2), .mov, [.t 18], none⟩])
 (AC.seq (AC.reg [
  ⟨(some 20), .mov, [.t 0], none⟩,
  ⟨(some 21), .mov, [.t 2], none⟩,
  ⟨(some 22), .mov, [.t 3], none⟩,
  ⟨(some 23), .mov, [.t 4], none⟩,
  ⟨(some 24), .call 134, [.t 20, .t 21, .t 22, .t 23], none⟩,
  ⟨(some 19), .mov, [.t 24], none⟩,
  ⟨(some 25), .ext 0, [.t 19], none⟩,
  ⟨(some 26), .ext 1, [.t 19], none⟩,
  ⟨(some 2), .mov, [.t 25], none⟩,
  ⟨(some 3), .mov, [.t 26], none⟩])
 (AC.seq (AC.reg [
  ⟨(some 28), .mov, [.t 0], none⟩,
  ⟨(some 29), .mov, [.t 1], none⟩,
  ⟨(some 30), .mov, [.t 2], none⟩,
  ⟨(some 31), .mov, [.t 4], none⟩,
  ⟨(some 32), .call 134, [.t 28, .t 29, .t 30, .t 31], none⟩,
  ⟨(some 27), .mov, [.t 32], none⟩,
  ⟨(some 33), .ext 0, [.t 27], none⟩,
  ⟨(some 34), .ext 1, [.t 27], none⟩,
  ⟨(some 1), .mov, [.t 33], none⟩,
  ⟨(some 2), .mov, [.t 34], none⟩])
 (AC.seq (AC.reg [
  ⟨(some 35), .mov, [.t 2], none⟩,
  ⟨(some 10), .mov, [.t 35], none⟩])
 AC.ret)))))
def r118 : AC × List RT × Nat := (c118, [.tmp 10], 36)
theorem ok118e : compF Tryz.prog Tryz.f118 ⟨true, false, []⟩ = some r118 := by kernel_rfl
/- slices.medianAdjacentOrdered[uint16] -/
def c117 : AC := (AC.seq (AC.reg [
  ⟨(some 6), .mov, [.c (.int .i64 0)], none⟩])
 (AC.seq (AC.reg [
  ⟨(some 7), .mov, [.t 0], none⟩,
  ⟨(some 8), .mov, [.t 1], none⟩,
  ⟨(some 9), .bin .sub, [.t 8, .c (.int .i64 1)], none⟩,
  ⟨(some 10), .mov, [.t 1], none⟩,
  ⟨(some 11), .mov, [.t 1], none⟩,
  ⟨(some 12), .bin .add, [.t 11, .c (.int .i64 1)], none⟩,
  ⟨(some 13), .mov, [.t 2], none⟩,
  ⟨(some 14), .call 118, [.t 7, .t 9, .t 10, .t 12, .t 13], none⟩,
  ⟨(some 6), .mov, [.t 14], none⟩])
 AC.ret))
def r117 : AC × List RT × Nat := (c117, [.tmp 6], 15)
theorem ok117e : compF Tryz.prog Tryz.f117 ⟨true, false, []⟩ = some r117 := by kernel_rfl
/- slices.choosePivotOrdered[uint16] -/
def c84 : AC := (AC.seq (AC.reg [
  ⟨(some 6), .mov, [.c (.int .i64 0)], none⟩,
  ⟨(some 7), .mov, [.c (.int .i64 0)], none⟩])
 (AC.seq (AC.reg [
  ⟨(some 13), .mov, [.t 2], none⟩,
  ⟨(some 14), .mov, [.t 1], none⟩,
  ⟨(some 15), .bin .sub, [.t 13, .t 14], none⟩,
  ⟨(some 8), .mov, [.t 15], none⟩])
 (AC.seq (AC.reg [
  ⟨(some 9), .alloc [.int .i64 0], [], none⟩])
 (AC.seq (AC.reg [
  ⟨(some 16), .mov, [.t 1], none⟩,
  ⟨(some 17), .mov, [.t 8], none⟩,
  ⟨(some 18), .bin .quo, [.t 17, .c (.int .i64 4)], none⟩,
  ⟨(some 19), .bin .mul, [.t 18, .c (.int .i64 1)], none⟩,
  ⟨(some 20), .bin .add, [.t 16, .t 19], none⟩,
  ⟨(some 10), .mov, [.t 20], none⟩])
 (AC.seq (AC.reg [
  ⟨(some 21), .mov, [.t 1], none⟩,
  ⟨(some 22), .mov, [.t 8], none⟩,
  ⟨(some 23), .bin .quo, [.t 22, .c (.int .i64 4)], none⟩,
  ⟨(some 24), .bin .mul, [.t 23, .c (.int .i64 2)], none⟩,
  ⟨(some 25), .bin .add, [.t 21, .t 24], none⟩,
  ⟨(some 11), .mov, [.t 25], none⟩])
 (AC.seq (AC.reg [
  ⟨(some 26), .mov, [.t 1], none⟩,
  ⟨(some 27), .mov, [.t 8], none⟩,
  ⟨(some 28), .bin .quo, [.t 27, .c (.int .i64 4)], none⟩,
  ⟨(some 29), .bin .mul, [.t 28, .c (.int .i64 3)], none⟩,
  ⟨(some 30), .bin .add, [.t 26, .t 29], none⟩,
  ⟨(some 12), .mov, [.t 30], none⟩])
 (AC.seq (AC.seq (AC.reg [
  ⟨(some 31), .mov, [.t 8], none⟩,
  ⟨(some 32), .bin .geq, [.t 31, .c (.int .i64 8)], none⟩])
 (AC.cond (.t 32)
  (AC.seq (AC.seq (AC.reg [
   ⟨(some 33), .mov, [.t 8], none⟩,
   ⟨(some 34), .bin .geq, [.t 33, .c (.int .i64 50)], none⟩])
  (AC.cond (.t 34)
   (AC.seq (AC.reg [
    ⟨(some 35), .mov, [.t 0], none⟩,
    ⟨(some 36), .mov, [.t 10], none⟩,
    ⟨(some 37), .call 117, [.t 35, .t 36, .t 9], none⟩,
    ⟨(some 10), .mov, [.t 37], none⟩])
   (AC.seq (AC.reg [
    ⟨(some 38), .mov, [.t 0], none⟩,
    ⟨(some 39), .mov, [.t 11], none⟩,
    ⟨(some 40), .call 117, [.t 38, .t 39, .t 9], none⟩,
    ⟨(some 11), .mov, [.t 40], none⟩])
   (AC.reg [
    ⟨(some 41), .mov, [.t 0], none⟩,
    ⟨(some 42), .mov, [.t 12], none⟩,
    ⟨(some 43), .call 117, [.t 41, .t 42, .t 9], none⟩,
    ⟨(some 12), .mov, [.t 43], none⟩])))
   AC.skip))
  (AC.reg [
   ⟨(some 44), .mov, [.t 0], none⟩,
   ⟨(some 45), .mov, [.t 10], none⟩,
   ⟨(some 46), .mov, [.t 11], none⟩,
   ⟨(some 47), .mov, [.t 12], none⟩,
   ⟨(some 48), .call 118, [.t 44, .t 45, .t 46, .t 47, .t 9], none⟩,
   ⟨(some 11), .mov, [.t 48], none⟩]))
  AC.skip))
 (AC.seq (AC.reg [
  ⟨(some 49), .load false 1, [.t 9], none⟩])
 (AC.block 0
  (AC.seq (AC.reg [
   ⟨(some 52), .bin .eql, [.t 49, .c (.int .i64 0)], none⟩,
   ⟨(some 51), .mov, [.t 52], none⟩])
  (AC.cond (.t 51)
   (AC.seq (AC.reg [
    ⟨(some 53), .mov, [.t 11], none⟩,
    ⟨(some 6), .mov, [.t 53], none⟩,
    ⟨(some 7), .mov, [.c (.int .i64 1)], none⟩])
   AC.ret)
   (AC.seq (AC.reg [
    ⟨(some 55), .bin .eql, [.t 49, .c (.int .i64 12)], none⟩,
    ⟨(some 54), .mov, [.t 55], none⟩])
   (AC.cond (.t 54)
    (AC.seq (AC.reg [
     ⟨(some 56), .mov, [.t 11], none⟩,
     ⟨(some 6), .mov, [.t 56], none⟩,
     ⟨(some 7), .mov, [.c (.int .i64 2)], none⟩])
    AC.ret)
    (AC.seq (AC.reg [
     ⟨(some 50), .mov, [.t 11], none⟩,
     ⟨(some 6), .mov, [.t 50], none⟩,
     ⟨(some 7), .mov, [.c (.int .i64 0)], none⟩])
    AC.ret))))))))))))))
def r84 : AC × List RT × Nat := (c84, [.tmp 6, .tmp 7], 57)
theorem ok84e : compF Tryz.prog Tryz.f84 ⟨true, false, []⟩ = some r84 := by kernel_rfl
variable {E : Env}
/-! the count of swaps, beside the array -/
def pq (A : AW) (p s : Nat) : AW := A.put p (.row [.int .i64 (s : Int)])
theorem pq_nx {A : AW} {p s : Nat} : (pq A p s).nx = A.nx := id rfl
theorem pq_pq {A : AW} {p s t : Nat} : (pq A p s).put p (.row [.int .i64 (t : Int)]) = pq A p t := by
  simp only [pq, AW.put, AW.mk.injEq, and_true]
  funext x
  by_cases h : x = p <;> simp [h]
theorem pq_get {A : AW} {p s : Nat} : (pq A p s).get p = some (.row [.int .i64 (s : Int)]) := by simp [pq, AW.put]
theorem ldq {A : AW} {K : V → AW → Prop} {r p s i : Nat} {d : Array Int} (hA : A.get r = some (.vec 1 (cellsI d))) (hp : r ≠ p) (h : i < d.size) :
    sem E (.load false 1) [.vptr r i] (pq A p s) K = K (.int .u16 d[i]!) (pq A p s) :=
  sem_load_vec (s' := 1) (cells := cellsI d) (by simp [pq, AW.put, hp, hA]) (part_cellsI h)
theorem ldp {A : AW} {K : V → AW → Prop} {p s : Nat} : sem E (.load false 1) [.ptr p 0] (pq A p s) K = K (.int .i64 (s : Int)) (pq A p s) := sem_load_row pq_get rfl
theorem stp {A : AW} {K : V → AW → Prop} {p s t : Nat} : sem E (.store 1) [.ptr p 0, .int .i64 (t : Int)] (pq A p s) K = K .undef (pq A p t) := by
  rw [sem_store_row (s := 1) (x := .int .i64 (t : Int)) pq_get rfl rfl (by simp)]
  show K .undef ((pq A p s).put p (.row [.int .i64 (t : Int)])) = _
  rw [pq_pq]

theorem order2_c (hP : E.P = Tryz.prog) {A : AW} {r p s n a b : Nat} {d : Array Int} (hA : A.get r = some (.vec 1 (cellsI d))) (hp : r ≠ p) (hn : d.size = n) (ha : a < n) (hb : b < n) (hs : s < 1000) :
    ACalls E 134 [.slr r 0 n 1, .int .i64 a, .int .i64 b, .ptr p 0] (pq A p s) fun X W' => X = .tuple [.int .i64 (order2 ltInt d a b s).1, .int .i64 (order2 ltInt d a b s).2.1] ∧ W' = pq A p (order2 ltInt d a b s).2.2 := by
  refine ACalls.of hP Tryz.func134 ok134e (by simp) fun _ _ => ?_
  simp (disch := omega) only [c134, e_seq, e_reg, e_par, e_step, e_cons, e_nil, e_plain, evs_nil, evs_cons, ev_t, ev_c, argsA_ap, e_putK, e_putd, e_put, e_then, ↓reduceIte, Nat.reduceEqDiff, reduceCtorEq, List.map_cons, List.map_nil, List.getElem?_cons_zero, List.getElem?_cons_succ, frz_int, sem_mov, sem_call, ix, ldq hA hp]
  refine (less_c hP _ _ _).mono ?_
  rintro X W' ⟨rfl, rfl⟩
  by_cases h : d[b]! < d[a]!
  · simp (disch := omega) only [e_seq, e_reg, cond_if, e_ret, e_done, e_cons, e_nil, e_plain, evs_nil, evs_cons, ev_t, ev_c, argsA_ap, e_putK, e_putd, e_putd0, e_put, e_then, e_then_ret, retQ_ret, e_res2, ↓reduceIte, Nat.reduceEqDiff, List.getElem?_cons_zero, List.getElem?_cons_succ, frz_int, sem_mov, sem_add, sem_nilck_ptr, h, decide_true, ldp, wadd1, stp]
    exact ⟨_, rfl, _, _, .weak weak_id, Nat.le_refl _, by simp [order2, ltInt, h], by simp [order2, ltInt, h]⟩
  · simp (disch := omega) only [e_seq, e_reg, cond_if, e_ret, e_skip, e_done, e_cons, e_nil, e_plain, evs_nil, evs_cons, ev_t, argsA_ap, e_putK, e_putd, e_put, e_then, retQ_ret, e_res2, ↓reduceIte, Nat.reduceEqDiff, List.getElem?_cons_zero, List.getElem?_cons_succ, Bool.false_eq_true, frz_int, sem_mov, h, decide_false]
    exact ⟨_, rfl, _, _, .weak weak_id, Nat.le_refl _, by simp [order2, ltInt, h], by simp [order2, ltInt, h]⟩
theorem order2_le {d : Array Int} {a b s n : Nat} (ha : a < n) (hb : b < n) : (order2 ltInt d a b s).1 < n ∧ (order2 ltInt d a b s).2.1 < n ∧ (order2 ltInt d a b s).2.2 ≤ s + 1 := by
  unfold order2
  split <;> simp [ha, hb]

theorem median_c (hP : E.P = Tryz.prog) {A : AW} {r p s n a b c : Nat} {d : Array Int} (hA : A.get r = some (.vec 1 (cellsI d))) (hp : r ≠ p) (hn : d.size = n) (ha : a < n) (hb : b < n) (hc : c < n) (hs : s < 900) :
    ACalls E 118 [.slr r 0 n 1, .int .i64 a, .int .i64 b, .int .i64 c, .ptr p 0] (pq A p s) fun X W' => X = .int .i64 (median ltInt d a b c s).1 ∧ W' = pq A p (median ltInt d a b c s).2 := by
  refine ACalls.of hP Tryz.func118 ok118e (by simp) fun _ _ => ?_
  obtain ⟨l1, l2, l3⟩ := order2_le (d := d) (s := s) ha hb
  obtain ⟨m1, m2, m3⟩ := order2_le (d := d) (s := (order2 ltInt d a b s).2.2) l2 hc
  obtain ⟨n1, n2, n3⟩ := order2_le (d := d) (s := (order2 ltInt d (order2 ltInt d a b s).2.1 c (order2 ltInt d a b s).2.2).2.2) l1 m1
  simp only [c118, e_seq, e_reg, e_cons, e_nil, e_plain, evs_nil, evs_cons, ev_t, ev_c, argsA_ap, e_putK, e_putd, e_put, e_then, ↓reduceIte, Nat.reduceEqDiff, reduceCtorEq, List.map_cons, List.map_nil, List.getElem?_cons_zero, List.getElem?_cons_succ, frz_int, frz_slr, frz_ptr, sem_mov, sem_call]
  refine (order2_c hP hA hp hn ha hb (by omega)).mono ?_
  rintro X W' ⟨rfl, rfl⟩
  simp only [e_seq, e_reg, e_cons, e_nil, e_plain, evs_nil, evs_cons, ev_t, argsA_ap, e_putK, e_putd, e_put, e_then, ↓reduceIte, Nat.reduceEqDiff, reduceCtorEq, List.map_cons, List.map_nil, List.getElem?_cons_zero, List.getElem?_cons_succ, frz_int, frz_slr, frz_ptr, sem_mov, sem_ext0, sem_ext1, sem_call]
  refine (order2_c hP hA hp hn l2 hc (by omega)).mono ?_
  rintro X W' ⟨rfl, rfl⟩
  simp only [e_seq, e_reg, e_cons, e_nil, e_plain, evs_nil, evs_cons, ev_t, argsA_ap, e_putK, e_putd, e_put, e_then, ↓reduceIte, Nat.reduceEqDiff, reduceCtorEq, List.map_cons, List.map_nil, List.getElem?_cons_zero, List.getElem?_cons_succ, frz_int, frz_slr, frz_ptr, sem_mov, sem_ext0, sem_ext1, sem_call]
  refine (order2_c hP hA hp hn l1 m1 (by omega)).mono ?_
  rintro X W' ⟨rfl, rfl⟩
  simp only [e_seq, e_reg, e_ret, e_cons, e_nil, e_plain, evs_nil, evs_cons, ev_t, e_putK, e_putd, e_put, e_then, retQ_ret, e_res1, ↓reduceIte, Nat.reduceEqDiff, Option.map_some, frz_int, sem_mov, sem_ext0, sem_ext1]
  exact ⟨_, rfl, _, _, .weak weak_id, Nat.le_refl _, rfl, rfl⟩
theorem median_le {d : Array Int} {a b c s n : Nat} (ha : a < n) (hb : b < n) (hc : c < n) : (median ltInt d a b c s).1 < n ∧ (median ltInt d a b c s).2 ≤ s + 3 := by
  obtain ⟨l1, l2, l3⟩ := order2_le (d := d) (s := s) ha hb
  obtain ⟨m1, m2, m3⟩ := order2_le (d := d) (s := (order2 ltInt d a b s).2.2) l2 hc
  obtain ⟨n1, n2, n3⟩ := order2_le (d := d) (s := (order2 ltInt d (order2 ltInt d a b s).2.1 c (order2 ltInt d a b s).2.2).2.2) l1 m1
  exact ⟨n2, by simp only [median]; omega⟩

theorem medianAdjacent_c (hP : E.P = Tryz.prog) {A : AW} {r p s n a : Nat} {d : Array Int} (hA : A.get r = some (.vec 1 (cellsI d))) (hp : r ≠ p) (hn : d.size = n) (ha : 1 ≤ a) (hb : a + 1 < n) (hs : s < 900) (hsm : n < 2 ^ 48) :
    ACalls E 117 [.slr r 0 n 1, .int .i64 a, .ptr p 0] (pq A p s) fun X W' => X = .int .i64 (medianAdjacent ltInt d a s).1 ∧ W' = pq A p (medianAdjacent ltInt d a s).2 := by
  refine ACalls.of hP Tryz.func117 ok117e (by simp) fun _ _ => ?_
  simp (disch := omega) only [c117, e_seq, e_reg, e_cons, e_nil, e_plain, evs_nil, evs_cons, ev_t, ev_c, argsA_ap, e_putK, e_putd, e_put, e_then, ↓reduceIte, Nat.reduceEqDiff, reduceCtorEq, List.map_cons, List.map_nil, List.getElem?_cons_zero, List.getElem?_cons_succ, frz_int, frz_slr, frz_ptr, sem_mov, sem_add, sem_sub, sem_call, wsub1, wadd1]
  refine (median_c hP hA hp hn (by omega) (by omega) (by omega) hs).mono ?_
  rintro X W' ⟨rfl, rfl⟩
  simp only [e_ret, e_cons, e_nil, e_plain, evs_nil, evs_cons, ev_t, e_putK, e_putd, e_put, retQ_ret, e_res1, ↓reduceIte, Option.map_some, frz_int, sem_mov]
  exact ⟨_, rfl, _, _, .weak weak_id, Nat.le_refl _, rfl, rfl⟩

def hintN : Hint → Int
  | .unknown => 0 | .increasing => 1 | .decreasing => 2
theorem wmul1 {a : Nat} (h : a < 2 ^ 63) : IntKind.i64.wrap ((a : Int) * 1) = ((a * 1 : Nat) : Int) := by rw [← wn (show a * 1 < 2 ^ 63 by omega)]; congr 1
theorem wmulr2 {a : Nat} (h : a * 2 < 2 ^ 63) : IntKind.i64.wrap ((a : Int) * 2) = ((a * 2 : Nat) : Int) := by rw [← wn h]; congr 1
theorem wmulr3 {a : Nat} (h : a * 3 < 2 ^ 63) : IntKind.i64.wrap ((a : Int) * 3) = ((a * 3 : Nat) : Int) := by rw [← wn h]; congr 1
theorem cge8 {a : Nat} : decide ((a : Int) ≥ 8) = decide (a ≥ 8) := by simp; omega
theorem cge50 {a : Nat} : decide ((a : Int) ≥ 50) = decide (a ≥ 50) := by simp; omega
theorem eq0 {a : Nat} : ((a : Int) == 0) = decide (a = 0) := by
  by_cases h : a = 0 <;> simp [h]
theorem eq12 {a : Nat} : ((a : Int) == 12) = decide (a = 12) := by
  by_cases h : a = 12
  · simp [h]
  · simp [h]; omega
/-- What was made may be forgotten. -/
theorem weak_back {X : V} {W W1 : AW} (hok : W.ok) (hX : X.bel W.nx = true) (h : ∀ x, x < W.nx → W1.get x = W.get x) : WeakV X W1 W :=
  ⟨.inr hX, fun r o hr => by rw [h r (hok r o hr).1]; exact hr, .inr fun r o hr => (hok r o hr).1, .inr fun r o hr => (hok r o hr).2⟩

theorem choosePivot_c (hP : E.P = Tryz.prog) (W : AW) (r n a b : Nat) (d : Array Int) (hn : d.size = n) (hr : r < W.nx) (hab : a < b) (hb : b ≤ n) (hl : 8 ≤ b - a) (hsm : n < 2 ^ 48) :
    ACalls E 84 [.slr r 0 n 1, .int .i64 a, .int .i64 b] (pv W r d) fun X W' => X = .tuple [.int .i64 (choosePivot ltInt d a b).1, .int .i64 (hintN (choosePivot ltInt d a b).2)] ∧ W' = pv W r d := by
  refine ACalls.of hP Tryz.func84 ok84e (by simp) fun _ hok => ?_
  obtain ⟨l, hl'⟩ : ∃ l, l = b - a := ⟨_, rfl⟩
  obtain ⟨A, hAd⟩ : ∃ A, A = (pv W r d).alloc (.row [.int .i64 0]) := ⟨_, rfl⟩
  have hA : A.get r = some (.vec 1 (cellsI d)) := by
    rw [hAd]; simp only [AW.alloc, pv_nx]; rw [if_neg (by omega)]; exact pv_get
  have hp : r ≠ W.nx := by omega
  have hA0 : A = pq A W.nx 0 := by
    rw [hAd]
    simp only [pq, AW.alloc, AW.put, AW.mk.injEq, and_true]
    funext x
    by_cases h : x = W.nx <;> simp [h, pv_nx]
  have hback : ∀ s x, x < (pv W r d).nx → (pq A W.nx s).get x = (pv W r d).get x := by
    intro s x hx
    rw [pv_nx] at hx
    rw [hAd]
    simp only [pq, AW.alloc, AW.put, pv_nx]
    rw [if_neg (by omega), if_neg (by omega)]
  -- behind the medians
  have hn1 : a + l / 4 * 1 + 1 < n := by omega
  have hn2 : a + l / 4 * 2 + 1 < n := by omega
  have hn3 : a + l / 4 * 3 + 1 < n := by omega
  have hg8 : l ≥ 8 := by omega
  by_cases h50 : l ≥ 50
  · have k1 := median_le (d := d) (s := 0) (n := n) (a := a + l / 4 * 1 - 1) (b := a + l / 4 * 1) (c := a + l / 4 * 1 + 1) (by omega) (by omega) (by omega)
    obtain ⟨R1, hR1⟩ : ∃ R1, R1 = medianAdjacent ltInt d (a + l / 4 * 1) 0 := ⟨_, rfl⟩
    have k2 := median_le (d := d) (s := R1.2) (n := n) (a := a + l / 4 * 2 - 1) (b := a + l / 4 * 2) (c := a + l / 4 * 2 + 1) (by omega) (by omega) (by omega)
    obtain ⟨R2, hR2⟩ : ∃ R2, R2 = medianAdjacent ltInt d (a + l / 4 * 2) R1.2 := ⟨_, rfl⟩
    have k3 := median_le (d := d) (s := R2.2) (n := n) (a := a + l / 4 * 3 - 1) (b := a + l / 4 * 3) (c := a + l / 4 * 3 + 1) (by omega) (by omega) (by omega)
    obtain ⟨R3, hR3⟩ : ∃ R3, R3 = medianAdjacent ltInt d (a + l / 4 * 3) R2.2 := ⟨_, rfl⟩
    obtain ⟨R, hR⟩ : ∃ R, R = median ltInt d R1.1 R2.1 R3.1 R3.2 := ⟨_, rfl⟩
    change (medianAdjacent ltInt d (a + l / 4 * 1) 0).1 < n ∧ (medianAdjacent ltInt d (a + l / 4 * 1) 0).2 ≤ 0 + 3 at k1
    change (medianAdjacent ltInt d (a + l / 4 * 2) R1.2).1 < n ∧ (medianAdjacent ltInt d (a + l / 4 * 2) R1.2).2 ≤ R1.2 + 3 at k2
    change (medianAdjacent ltInt d (a + l / 4 * 3) R2.2).1 < n ∧ (medianAdjacent ltInt d (a + l / 4 * 3) R2.2).2 ≤ R2.2 + 3 at k3
    rw [← hR1] at k1; rw [← hR2] at k2; rw [← hR3] at k3
    simp (disch := omega) only [c84, e_seq, e_reg, cond_if, e_cons, e_nil, e_plain, evs_nil, evs_cons, ev_t, ev_c, argsA_ap, e_putK, e_putd, e_put, e_then, ↓reduceIte, Nat.reduceEqDiff, reduceCtorEq, List.map_cons, List.map_nil, List.getElem?_cons_zero, List.getElem?_cons_succ, frz_int, frz_slr, frz_ptr, sem_mov, sem_add, sem_sub, sem_mul, sem_geq, sem_call, sem_alloc, wsub, ← hl', quo4, wmul1, wmulr2, wmulr3, wadd, cge8, cge50, hg8, h50, decide_true, pv_nx, ← hAd]
    rw [hA0]
    refine (medianAdjacent_c hP hA hp hn (by omega) (by omega) (by omega) hsm).mono ?_
    rintro X W' ⟨rfl, rfl⟩
    rw [← hR1]
    simp (disch := omega) only [e_seq, e_reg, e_cons, e_nil, e_plain, evs_nil, evs_cons, ev_t, argsA_ap, e_putK, e_putd, e_put, e_then, ↓reduceIte, Nat.reduceEqDiff, reduceCtorEq, List.map_cons, List.map_nil, List.getElem?_cons_zero, frz_int, frz_slr, frz_ptr, sem_mov, sem_call]
    refine (medianAdjacent_c hP hA hp hn (by omega) (by omega) (by omega) hsm).mono ?_
    rintro X W' ⟨rfl, rfl⟩
    rw [← hR2]
    simp (disch := omega) only [e_reg, e_cons, e_nil, e_plain, evs_nil, evs_cons, ev_t, argsA_ap, e_putK, e_putd, e_put, e_then, ↓reduceIte, Nat.reduceEqDiff, reduceCtorEq, List.map_cons, List.map_nil, List.getElem?_cons_zero, frz_int, frz_slr, frz_ptr, sem_mov, sem_call]
    refine (medianAdjacent_c hP hA hp hn (by omega) (by omega) (by omega) hsm).mono ?_
    rintro X W' ⟨rfl, rfl⟩
    rw [← hR3]
    simp (disch := omega) only [e_reg, e_cons, e_nil, e_plain, evs_nil, evs_cons, ev_t, argsA_ap, e_putK, e_putd, e_put, e_then, ↓reduceIte, Nat.reduceEqDiff, reduceCtorEq, List.map_cons, List.map_nil, List.getElem?_cons_zero, frz_int, frz_slr, frz_ptr, sem_mov, sem_call]
    refine (median_c hP hA hp hn k1.1 k2.1 k3.1 (by omega)).mono ?_
    rintro X W' ⟨rfl, rfl⟩
    rw [← hR]
    have hR' : R = median ltInt d (medianAdjacent ltInt d (a + l / 4 * 1) 0).1 (medianAdjacent ltInt d (a + l / 4 * 2) (medianAdjacent ltInt d (a + l / 4 * 1) 0).2).1 (medianAdjacent ltInt d (a + l / 4 * 3) (medianAdjacent ltInt d (a + l / 4 * 2) (medianAdjacent ltInt d (a + l / 4 * 1) 0).2).2).1 (medianAdjacent ltInt d (a + l / 4 * 3) (medianAdjacent ltInt d (a + l / 4 * 2) (medianAdjacent ltInt d (a + l / 4 * 1) 0).2).2).2 := by
      rw [hR, hR3, hR2, hR1]
    have hcp : choosePivot ltInt d a b = (R.1, if R.2 = 0 then .increasing else if R.2 = 12 then .decreasing else .unknown) := by
      simp only [choosePivot, ← hl', hg8, h50, ↓reduceIte, ← hR']
    by_cases h0 : R.2 = 0
    · simp only [e_seq, e_reg, cond_if, e_block, e_ret, e_cons, e_nil, e_plain, evs_nil, evs_cons, ev_t, ev_c, e_putK, e_putd, e_put, e_then, e_blk_ret, retQ_ret, e_res2, ↓reduceIte, Nat.reduceEqDiff, frz_int, sem_mov, sem_eql, ldp, eq0, h0, decide_true]
      exact ⟨_, rfl, _, _, .weak (weak_back hok rfl (hback _)), Nat.le_refl _, by simp [hcp, h0, hintN], rfl⟩
    by_cases h12 : R.2 = 12
    · simp only [e_seq, e_reg, cond_if, e_block, e_ret, e_cons, e_nil, e_plain, evs_nil, evs_cons, ev_t, ev_c, e_putK, e_putd, e_put, e_then, e_blk_ret, retQ_ret, e_res2, ↓reduceIte, Nat.reduceEqDiff, reduceCtorEq, Bool.false_eq_true, frz_int, sem_mov, sem_eql, ldp, eq0, eq12, decide_false, h12, decide_true]
      exact ⟨_, rfl, _, _, .weak (weak_back hok rfl (hback _)), Nat.le_refl _, by simp [hcp, h12, hintN], rfl⟩
    · simp only [e_seq, e_reg, cond_if, e_block, e_ret, e_cons, e_nil, e_plain, evs_nil, evs_cons, ev_t, ev_c, e_putK, e_putd, e_put, e_then, e_blk_ret, retQ_ret, e_res2, ↓reduceIte, Nat.reduceEqDiff, Bool.false_eq_true, frz_int, sem_mov, sem_eql, ldp, eq0, eq12, h0, decide_false, h12]
      exact ⟨_, rfl, _, _, .weak (weak_back hok rfl (hback _)), Nat.le_refl _, by simp [hcp, h0, h12, hintN], rfl⟩
  · obtain ⟨R, hR⟩ : ∃ R, R = median ltInt d (a + l / 4 * 1) (a + l / 4 * 2) (a + l / 4 * 3) 0 := ⟨_, rfl⟩
    simp (disch := omega) only [c84, e_seq, e_reg, cond_if, e_skip, e_cons, e_nil, e_plain, evs_nil, evs_cons, ev_t, ev_c, argsA_ap, e_putK, e_putd, e_put, e_then, ↓reduceIte, Nat.reduceEqDiff, reduceCtorEq, List.map_cons, List.map_nil, List.getElem?_cons_zero, List.getElem?_cons_succ, Bool.false_eq_true, frz_int, frz_slr, frz_ptr, sem_mov, sem_add, sem_sub, sem_mul, sem_geq, sem_call, sem_alloc, wsub, ← hl', quo4, wmul1, wmulr2, wmulr3, wadd, cge8, cge50, hg8, h50, decide_true, decide_false, pv_nx, ← hAd]
    rw [hA0]
    refine (median_c hP hA hp hn (by omega) (by omega) (by omega) (by omega)).mono ?_
    rintro X W' ⟨rfl, rfl⟩
    rw [← hR]
    have hcp : choosePivot ltInt d a b = (R.1, if R.2 = 0 then .increasing else if R.2 = 12 then .decreasing else .unknown) := by
      simp only [choosePivot, ← hl', hg8, h50, ↓reduceIte, ← hR]
    by_cases h0 : R.2 = 0
    · simp only [e_seq, e_reg, cond_if, e_block, e_ret, e_cons, e_nil, e_plain, evs_nil, evs_cons, ev_t, ev_c, e_putK, e_putd, e_put, e_then, e_blk_ret, retQ_ret, e_res2, ↓reduceIte, Nat.reduceEqDiff, frz_int, sem_mov, sem_eql, ldp, eq0, h0, decide_true]
      exact ⟨_, rfl, _, _, .weak (weak_back hok rfl (hback _)), Nat.le_refl _, by simp [hcp, h0, hintN], rfl⟩
    by_cases h12 : R.2 = 12
    · simp only [e_seq, e_reg, cond_if, e_block, e_ret, e_cons, e_nil, e_plain, evs_nil, evs_cons, ev_t, ev_c, e_putK, e_putd, e_put, e_then, e_blk_ret, retQ_ret, e_res2, ↓reduceIte, Nat.reduceEqDiff, reduceCtorEq, Bool.false_eq_true, frz_int, sem_mov, sem_eql, ldp, eq0, eq12, decide_false, h12, decide_true]
      exact ⟨_, rfl, _, _, .weak (weak_back hok rfl (hback _)), Nat.le_refl _, by simp [hcp, h12, hintN], rfl⟩
    · simp only [e_seq, e_reg, cond_if, e_block, e_ret, e_cons, e_nil, e_plain, evs_nil, evs_cons, ev_t, ev_c, e_putK, e_putd, e_put, e_then, e_blk_ret, retQ_ret, e_res2, ↓reduceIte, Nat.reduceEqDiff, Bool.false_eq_true, frz_int, sem_mov, sem_eql, ldp, eq0, eq12, h0, decide_false, h12]
      exact ⟨_, rfl, _, _, .weak (weak_back hok rfl (hback _)), Nat.le_refl _, by simp [hcp, h0, h12, hintN], rfl⟩
end Go.AL.S
set_option maxRecDepth 100000
namespace Go.AL.S
open Go Go.AL Go.Proofs Go.Sort
/- slices.partitionEqualOrdered[uint16] -/
def c88 : AC := (AC.seq (AC.reg [
  ⟨(some 8), .mov, [.c (.int .i64 0)], none⟩])
 (AC.seq (AC.par
  (PT.step 0 ⟨(some 11), .mov, [.t 0], none⟩
  (PT.step 1 ⟨(some 12), .mov, [.t 1], none⟩
  (PT.step 2 ⟨(some 13), .mov, [.t 0], none⟩
  (PT.step 3 ⟨(some 14), .mov, [.t 3], none⟩
  (PT.step 4 ⟨(some 15), .mov, [.t 0], none⟩
  (PT.step 5 ⟨(some 16), .mov, [.t 3], none⟩
  (PT.step 8 ⟨(some 19), .mov, [.t 0], none⟩
  (PT.step 9 ⟨(some 20), .mov, [.t 1], none⟩
  (PT.step 6 ⟨(some 17), .idxp 1, [.t 15, .t 16], none⟩
  (PT.step 7 ⟨(some 18), .load false 1, [.t 17], none⟩
  (PT.step 10 ⟨(some 21), .idxp 1, [.t 19, .t 20], none⟩
  (PT.step 11 ⟨(some 22), .load false 1, [.t 21], none⟩
  (PT.step 12 ⟨(some 23), .idxp 1, [.t 11, .t 12], none⟩
  (PT.step 13 ⟨none, .store 1, [.t 23, .t 18], none⟩
  (PT.step 14 ⟨(some 24), .idxp 1, [.t 13, .t 14], none⟩
  (PT.step 15 ⟨none, .store 1, [.t 24, .t 22], none⟩
  PT.done)))))))))))))))))
 (AC.seq (AC.reg [
  ⟨(some 25), .mov, [.t 1], none⟩,
  ⟨(some 26), .bin .add, [.t 25, .c (.int .i64 1)], none⟩,
  ⟨(some 27), .mov, [.t 2], none⟩,
  ⟨(some 28), .bin .sub, [.t 27, .c (.int .i64 1)], none⟩,
  ⟨(some 9), .mov, [.t 26], none⟩,
  ⟨(some 10), .mov, [.t 28], none⟩])
 (AC.seq (AC.block 0
  (AC.loop
   (AC.block 1
    (AC.seq (AC.block 2
     (AC.loop
      (AC.seq (AC.seq (AC.par
       (PT.step 0 ⟨(some 29), .mov, [.t 9], none⟩
       (PT.step 1 ⟨(some 30), .mov, [.t 10], none⟩
       (PT.step 2 ⟨(some 31), .bin .leq, [.t 29, .t 30], none⟩
       (PT.step 3 ⟨(some 32), .mov, [.t 31], none⟩
       (PT.step 4 ⟨(some 33), .mov, [.t 0], (some (32, true))⟩
       (PT.step 5 ⟨(some 34), .mov, [.t 1], (some (32, true))⟩
       (PT.step 8 ⟨(some 37), .mov, [.t 0], (some (32, true))⟩
       (PT.step 9 ⟨(some 38), .mov, [.t 9], (some (32, true))⟩
       (PT.step 6 ⟨(some 35), .idxp 1, [.t 33, .t 34], (some (32, true))⟩
       (PT.step 7 ⟨(some 36), .load false 1, [.t 35], (some (32, true))⟩
       (PT.step 10 ⟨(some 39), .idxp 1, [.t 37, .t 38], (some (32, true))⟩
       (PT.step 11 ⟨(some 40), .load false 1, [.t 39], (some (32, true))⟩
       (PT.step 12 ⟨(some 41), .call 87, [.t 36, .t 40], (some (32, true))⟩
       (PT.step 13 ⟨(some 42), .un .not, [.t 41], (some (32, true))⟩
       (PT.step 14 ⟨(some 43), .pick, [.t 32, .t 42, .c (.bool false)], none⟩
       PT.done))))))))))))))))
      (AC.cond (.t 43)
       AC.skip
       (AC.exit 2)))
      (AC.block 3
       (AC.reg [
        ⟨(some 44), .mov, [.t 9], none⟩,
        ⟨(some 45), .bin .add, [.t 44, .c (.int .i64 1)], none⟩,
        ⟨(some 9), .mov, [.t 45], none⟩])))))
    (AC.seq (AC.block 4
     (AC.loop
      (AC.seq (AC.seq (AC.par
       (PT.step 0 ⟨(some 46), .mov, [.t 9], none⟩
       (PT.step 1 ⟨(some 47), .mov, [.t 10], none⟩
       (PT.step 2 ⟨(some 48), .bin .leq, [.t 46, .t 47], none⟩
       (PT.step 3 ⟨(some 49), .mov, [.t 48], none⟩
       (PT.step 4 ⟨(some 50), .mov, [.t 0], (some (49, true))⟩
       (PT.step 5 ⟨(some 51), .mov, [.t 1], (some (49, true))⟩
       (PT.step 8 ⟨(some 54), .mov, [.t 0], (some (49, true))⟩
       (PT.step 9 ⟨(some 55), .mov, [.t 10], (some (49, true))⟩
       (PT.step 6 ⟨(some 52), .idxp 1, [.t 50, .t 51], (some (49, true))⟩
       (PT.step 7 ⟨(some 53), .load false 1, [.t 52], (some (49, true))⟩
       (PT.step 10 ⟨(some 56), .idxp 1, [.t 54, .t 55], (some (49, true))⟩
       (PT.step 11 ⟨(some 57), .load false 1, [.t 56], (some (49, true))⟩
       (PT.step 12 ⟨(some 58), .call 87, [.t 53, .t 57], (some (49, true))⟩
       (PT.step 13 ⟨(some 59), .pick, [.t 49, .t 58, .c (.bool false)], none⟩
       PT.done)))))))))))))))
      (AC.cond (.t 59)
       AC.skip
       (AC.exit 4)))
      (AC.block 5
       (AC.reg [
        ⟨(some 60), .mov, [.t 10], none⟩,
        ⟨(some 61), .bin .sub, [.t 60, .c (.int .i64 1)], none⟩,
        ⟨(some 10), .mov, [.t 61], none⟩])))))
    (AC.seq (AC.seq (AC.reg [
     ⟨(some 62), .mov, [.t 9], none⟩,
     ⟨(some 63), .mov, [.t 10], none⟩,
     ⟨(some 64), .bin .gtr, [.t 62, .t 63], none⟩])
    (AC.cond (.t 64)
     (AC.exit 0)
     AC.skip))
    (AC.seq (AC.par
     (PT.step 0 ⟨(some 65), .mov, [.t 0], none⟩
     (PT.step 1 ⟨(some 66), .mov, [.t 9], none⟩
     (PT.step 2 ⟨(some 67), .mov, [.t 0], none⟩
     (PT.step 3 ⟨(some 68), .mov, [.t 10], none⟩
     (PT.step 4 ⟨(some 69), .mov, [.t 0], none⟩
     (PT.step 5 ⟨(some 70), .mov, [.t 10], none⟩
     (PT.step 8 ⟨(some 73), .mov, [.t 0], none⟩
     (PT.step 9 ⟨(some 74), .mov, [.t 9], none⟩
     (PT.step 6 ⟨(some 71), .idxp 1, [.t 69, .t 70], none⟩
     (PT.step 7 ⟨(some 72), .load false 1, [.t 71], none⟩
     (PT.step 10 ⟨(some 75), .idxp 1, [.t 73, .t 74], none⟩
     (PT.step 11 ⟨(some 76), .load false 1, [.t 75], none⟩
     (PT.step 12 ⟨(some 77), .idxp 1, [.t 65, .t 66], none⟩
     (PT.step 13 ⟨none, .store 1, [.t 77, .t 72], none⟩
     (PT.step 14 ⟨(some 78), .idxp 1, [.t 67, .t 68], none⟩
     (PT.step 15 ⟨none, .store 1, [.t 78, .t 76], none⟩
     PT.done)))))))))))))))))
    (AC.seq (AC.reg [
     ⟨(some 79), .mov, [.t 9], none⟩,
     ⟨(some 80), .bin .add, [.t 79, .c (.int .i64 1)], none⟩,
     ⟨(some 9), .mov, [.t 80], none⟩])
    (AC.reg [
     ⟨(some 81), .mov, [.t 10], none⟩,
     ⟨(some 82), .bin .sub, [.t 81, .c (.int .i64 1)], none⟩,
     ⟨(some 10), .mov, [.t 82], none⟩])))))))))
 (AC.seq (AC.reg [
  ⟨(some 83), .mov, [.t 9], none⟩,
  ⟨(some 8), .mov, [.t 83], none⟩])
 AC.ret)))))
def r88 : AC × List RT × Nat := (c88, [.tmp 8], 84)
theorem ok88e : compF Tryz.prog Tryz.f88 ⟨true, false, []⟩ = some r88 := by kernel_rfl
variable {E : Env}
theorem partitionEqual_c (hP : E.P = Tryz.prog) (W : AW) (r n a b pivot : Nat) (d : Array Int) (hn : d.size = n) (hab : a < b) (hb : b ≤ n) (hpv : pivot < n) (hsm : n < 2 ^ 48) :
    ACalls E 88 [.slr r 0 n 1, .int .i64 a, .int .i64 b, .int .i64 pivot] (pv W r d) fun X W' => X = .int .i64 (partitionEqual ltInt d a b pivot).1 ∧ W' = pv W r (partitionEqual ltInt d a b pivot).2 := by
  refine ACalls.of hP Tryz.func88 ok88e (by simp) fun _ hok => ?_
  simp (disch := (try simp only [sz_set]) <;> omega) only [c88, e_seq, e_reg, e_block, e_par, e_done, e_step, e_cons, e_nil, e_plain, evs_nil, evs_cons, ev_t, ev_c, argsA_ap, e_putK, e_putd, e_putd0, e_put, e_then, ↓reduceIte, Nat.reduceEqDiff, reduceCtorEq, List.getElem?_cons_zero, List.getElem?_cons_succ, sem_mov, sem_add, sem_sub, ix, ld, st, sw, wadd1, wsub1, e_loop]
  refine ALoop.go (B := awp E _) (fun h => awp_mono _ h) (fun (s : Nat × Nat × Array Int) A1 W1 => A1 0 = some (.slr r 0 n 1) ∧ A1 1 = some (.int .i64 a) ∧ A1 9 = some (.int .i64 s.1) ∧ A1 10 = some (.int .i64 s.2.1) ∧
    W1 = pv W r s.2.2 ∧ a < s.1 ∧ s.1 ≤ n ∧ s.2.1 < n ∧ s.2.2.size = n ∧ partEqLoop ltInt a s.1 s.2.1 s.2.2 = partitionEqual ltInt d a b pivot) (fun s => s.2.1 + 1 - s.1) (a + 1, b - 1, swp d a pivot)
    ⟨rfl, rfl, rfl, rfl, rfl, by simp, by simp; omega, by simp; omega, by simp [swp, hn], rfl⟩ ?_
  rintro ⟨i, j, d1⟩ A1 W1 ⟨g0, g1, g9, g10, rfl, gi, gin, gj, gs, gt⟩ _
  simp only at g9 g10 gi gin gj gs gt
  rw [partEqLoop_eq] at gt
  simp only [e_seq, e_block]
  refine awp_mono _ (Q := fun e A' W' => e = .exit 2 ∧ A' 0 = some (.slr r 0 n 1) ∧ A' 1 = some (.int .i64 a) ∧ A' 9 = some (.int .i64 ((scanUp (fun x => !ltInt d1[a]! x) d1 j i : Nat) : Int)) ∧ A' 10 = some (.int .i64 (j : Nat)) ∧ W' = pv W r d1 ∧ i ≤ scanUp (fun x => !ltInt d1[a]! x) d1 j i ∧ scanUp (fun x => !ltInt d1[a]! x) d1 j i ≤ n) ?_ ?_
  rotate_left
  · rw [e_loop]
    refine ALoop.go (B := awp E _) (fun h => awp_mono _ h) (fun (s : Nat) A2 W2 => A2 0 = some (.slr r 0 n 1) ∧ A2 1 = some (.int .i64 a) ∧ A2 9 = some (.int .i64 (s : Int)) ∧ A2 10 = some (.int .i64 (j : Nat)) ∧ W2 = pv W r d1 ∧ i ≤ s ∧ s ≤ n ∧ scanUp (fun x => !ltInt d1[a]! x) d1 j s = scanUp (fun x => !ltInt d1[a]! x) d1 j i) (fun s => j + 1 - s) i
      ⟨by assumption, by assumption, by assumption, by assumption, rfl, Nat.le_refl _, by omega, rfl⟩ ?_
    rintro s A2 W2 ⟨q0, q1, qm, qf, rfl, qi, qin, qt⟩ _
    rw [scanUp.eq_def (fun x => !ltInt d1[a]! x) d1 j s] at qt
    by_cases h1 : s ≤ j
    · simp (disch := omega) only [e_seq, e_par, e_step, e_plain, guard_if, evs_nil, evs_cons, ev_t, e_putK, e_putd, e_put, e_then, ↓reduceIte, Nat.reduceEqDiff, reduceCtorEq, List.map_cons, List.map_nil, frz_int, sem_mov, sem_leq, sem_call, q0, q1, qm, qf, cle, h1, decide_true, ix, ld]
      refine (less_c hP _ _ _).mono ?_
      rintro X W' ⟨rfl, rfl⟩
      by_cases h2 : d1[a]! < d1[s]!
      · rw [if_neg (by simp [ltInt, h2])] at qt
        simp (disch := omega) only [cond_if, e_exit, e_done, e_step, e_plain, guard_if, evs_nil, evs_cons, ev_t, ev_c, e_putK, e_putd, e_put, e_then_exit, ↓reduceIte, Nat.reduceEqDiff, reduceCtorEq, Bool.false_eq_true, sem_pick, sem_not, h2, decide_true, Bool.not_true, q0, q1, qm, qf]
        exact ⟨trivial, trivial, trivial, by rw [← qt], trivial, trivial, by rw [← qt]; exact qi, by rw [← qt]; exact qin⟩
      · simp (disch := omega) only [e_reg, cond_if, e_block, e_skip, e_done, e_step, e_cons, e_nil, e_plain, guard_if, evs_nil, evs_cons, ev_t, ev_c, e_putK, e_putd, e_put, e_then, e_blk, ↓reduceIte, Nat.reduceEqDiff, reduceCtorEq, sem_mov, sem_pick, sem_add, sem_not, h2, decide_false, Bool.not_false, q0, q1, qm, qf, wadd1]
        exact ⟨s + 1, ⟨trivial, trivial, rfl, trivial, trivial, by omega, by omega, by rw [← qt, if_pos (by simp [h1, ltInt, h2])]⟩, by omega, Nat.le_refl _⟩
    · rw [if_neg (by simp [h1])] at qt
      simp (disch := omega) only [e_seq, cond_if, e_exit, e_par, e_done, e_step, e_plain, guard_if, evs_nil, evs_cons, ev_t, ev_c, e_putK, e_putd, e_put, e_then, e_then_exit, ↓reduceIte, Nat.reduceEqDiff, reduceCtorEq, Bool.false_eq_true, sem_mov, sem_pick, sem_leq, q0, q1, qm, qf, cle, h1, decide_false]
      exact ⟨trivial, trivial, trivial, by rw [← qt], trivial, trivial, by rw [← qt]; exact qi, by rw [← qt]; exact qin⟩
  rintro e A2 W2 ⟨rfl, u0, u1, u9, u10, rfl, ui, uin⟩
  simp only [e_seq, e_block, e_then, e_blk_exit, ↓reduceIte]
  obtain ⟨i2, hi2⟩ : ∃ i2, i2 = scanUp (fun x => !ltInt d1[a]! x) d1 j i := ⟨_, rfl⟩
  rw [← hi2] at u9 ui uin gt
  refine awp_mono _ (Q := fun e A' W' => e = .exit 4 ∧ A' 0 = some (.slr r 0 n 1) ∧ A' 1 = some (.int .i64 a) ∧ A' 10 = some (.int .i64 ((scanDown (fun x => ltInt d1[a]! x) d1 i2 j : Nat) : Int)) ∧ A' 9 = some (.int .i64 (i2 : Nat)) ∧ W' = pv W r d1 ∧ scanDown (fun x => ltInt d1[a]! x) d1 i2 j ≤ j) ?_ ?_
  rotate_left
  · rw [e_loop]
    refine ALoop.go (B := awp E _) (fun h => awp_mono _ h) (fun (s : Nat) A2 W2 => A2 0 = some (.slr r 0 n 1) ∧ A2 1 = some (.int .i64 a) ∧ A2 10 = some (.int .i64 (s : Int)) ∧ A2 9 = some (.int .i64 (i2 : Nat)) ∧ W2 = pv W r d1 ∧ s ≤ j ∧ scanDown (fun x => ltInt d1[a]! x) d1 i2 s = scanDown (fun x => ltInt d1[a]! x) d1 i2 j) (fun s => s) j
      ⟨by assumption, by assumption, by assumption, by assumption, rfl, Nat.le_refl _, rfl⟩ ?_
    rintro s A2 W2 ⟨q0, q1, qm, qf, rfl, qi, qt⟩ _
    by_cases h1 : i2 ≤ s
    · obtain ⟨s, rfl⟩ : ∃ s', s = s' + 1 := ⟨s - 1, by omega⟩
      rw [scanDown] at qt
      simp (disch := omega) only [e_seq, e_par, e_step, e_plain, guard_if, evs_nil, evs_cons, ev_t, e_putK, e_putd, e_put, e_then, ↓reduceIte, Nat.reduceEqDiff, reduceCtorEq, List.map_cons, List.map_nil, frz_int, sem_mov, sem_leq, sem_call, q0, q1, qm, qf, cle, h1, decide_true, ix, ld]
      refine (less_c hP _ _ _).mono ?_
      rintro X W' ⟨rfl, rfl⟩
      by_cases h2 : d1[a]! < d1[s + 1]!
      · simp (disch := omega) only [e_reg, cond_if, e_block, e_skip, e_done, e_step, e_cons, e_nil, e_plain, evs_nil, evs_cons, ev_t, ev_c, e_putK, e_putd, e_put, e_then, e_blk, ↓reduceIte, Nat.reduceEqDiff, reduceCtorEq, sem_mov, sem_pick, sem_sub, h2, decide_true, q0, q1, qm, qf, wsub1, Nat.add_sub_cancel]
        exact ⟨s, ⟨trivial, trivial, rfl, trivial, trivial, by omega, by rw [← qt, if_pos (by simp [h1, ltInt, h2])]⟩, by omega, Nat.le_refl _⟩
      · rw [if_neg (by simp [ltInt, h2])] at qt
        simp (disch := omega) only [cond_if, e_exit, e_done, e_step, e_plain, evs_nil, evs_cons, ev_t, ev_c, e_putK, e_putd, e_put, e_then_exit, ↓reduceIte, Nat.reduceEqDiff, reduceCtorEq, Bool.false_eq_true, sem_pick, h2, decide_false, q0, q1, qm, qf]
        exact ⟨trivial, trivial, trivial, by rw [← qt], trivial, trivial, by rw [← qt]; exact qi⟩
    · replace qt : s = scanDown (fun x => ltInt d1[a]! x) d1 i2 j := by
        rw [← qt]; cases s with
        | zero => rfl
        | succ s => rw [scanDown, if_neg (by simp [h1])]
      simp (disch := omega) only [e_seq, cond_if, e_exit, e_par, e_done, e_step, e_plain, guard_if, evs_nil, evs_cons, ev_t, ev_c, e_putK, e_putd, e_put, e_then, e_then_exit, ↓reduceIte, Nat.reduceEqDiff, reduceCtorEq, Bool.false_eq_true, sem_mov, sem_pick, sem_leq, q0, q1, qm, qf, cle, h1, decide_false]
      exact ⟨trivial, trivial, trivial, by rw [← qt], trivial, trivial, by rw [← qt]; exact qi⟩
  rintro e A2 W2 ⟨rfl, v0, v1, v10, v9, rfl, vj⟩
  obtain ⟨j2, hj2⟩ : ∃ j2, j2 = scanDown (fun x => ltInt d1[a]! x) d1 i2 j := ⟨_, rfl⟩
  rw [← hj2] at v10 vj gt
  by_cases h3 : i2 > j2
  · rw [if_pos h3] at gt
    simp (disch := omega) only [e_seq, e_reg, cond_if, e_exit, e_ret, e_cons, e_nil, e_plain, evs_nil, evs_cons, ev_t, e_putK, e_putd, e_put, e_then, e_then_exit, e_blk_exit, retQ_ret, e_res1, ↓reduceIte, Nat.reduceEqDiff, reduceCtorEq, Option.map_some, frz_int, sem_mov, sem_gtr, v9, v10, cgt, h3, decide_true]
    exact ⟨_, rfl, _, _, .weak weak_id, Nat.le_refl _, by rw [← gt], by rw [← gt]⟩
  · rw [if_neg h3] at gt
    simp (disch := (try simp only [sz_set]) <;> omega) only [e_seq, e_reg, cond_if, e_skip, e_par, e_done, e_step, e_cons, e_nil, e_plain, evs_nil, evs_cons, ev_t, ev_c, e_putK, e_putd, e_putd0, e_put, e_then, e_blk, e_blk_exit, ↓reduceIte, Nat.reduceEqDiff, reduceCtorEq, Bool.false_eq_true, sem_mov, sem_add, sem_sub, sem_gtr, v0, v1, v9, v10, cgt, h3, decide_false, ix, ld, st, sw, wadd1, wsub1]
    exact ⟨(i2 + 1, j2 - 1, swp d1 i2 j2), ⟨trivial, trivial, rfl, rfl, rfl, by simp; omega, by simp; omega, by simp; omega, by simp [swp, gs], gt⟩, by simp; omega, Nat.le_refl _⟩
end Go.AL.S
