/- The sorting of numbers, part 2. Conditions: none. -/
import Derived.Test.YtchoohbdpkolgaaGreatDoorBa
set_option maxRecDepth 100000
namespace Go.AL.S
open Go Go.AL Go.Proofs Go.Sort
/- slices.partitionOrdered[uint16] -/
def c89 : AC := (AC.seq (AC.reg [
  ⟨(some 8), .mov, [.c (.int .i64 0)], none⟩,
  ⟨(some 9), .mov, [.c (.bool false)], none⟩])
 (AC.seq (AC.par
  (PT.step 0 ⟨(some 12), .mov, [.t 0], none⟩
  (PT.step 1 ⟨(some 13), .mov, [.t 1], none⟩
  (PT.step 2 ⟨(some 14), .mov, [.t 0], none⟩
  (PT.step 3 ⟨(some 15), .mov, [.t 3], none⟩
  (PT.step 4 ⟨(some 16), .mov, [.t 0], none⟩
  (PT.step 5 ⟨(some 17), .mov, [.t 3], none⟩
  (PT.step 8 ⟨(some 20), .mov, [.t 0], none⟩
  (PT.step 9 ⟨(some 21), .mov, [.t 1], none⟩
  (PT.step 6 ⟨(some 18), .idxp 1, [.t 16, .t 17], none⟩
  (PT.step 7 ⟨(some 19), .load false 1, [.t 18], none⟩
  (PT.step 10 ⟨(some 22), .idxp 1, [.t 20, .t 21], none⟩
  (PT.step 11 ⟨(some 23), .load false 1, [.t 22], none⟩
  (PT.step 12 ⟨(some 24), .idxp 1, [.t 12, .t 13], none⟩
  (PT.step 13 ⟨none, .store 1, [.t 24, .t 19], none⟩
  (PT.step 14 ⟨(some 25), .idxp 1, [.t 14, .t 15], none⟩
  (PT.step 15 ⟨none, .store 1, [.t 25, .t 23], none⟩
  PT.done)))))))))))))))))
 (AC.seq (AC.reg [
  ⟨(some 26), .mov, [.t 1], none⟩,
  ⟨(some 27), .bin .add, [.t 26, .c (.int .i64 1)], none⟩,
  ⟨(some 28), .mov, [.t 2], none⟩,
  ⟨(some 29), .bin .sub, [.t 28, .c (.int .i64 1)], none⟩,
  ⟨(some 10), .mov, [.t 27], none⟩,
  ⟨(some 11), .mov, [.t 29], none⟩])
 (AC.seq (AC.block 0
  (AC.loop
   (AC.seq (AC.seq (AC.par
    (PT.step 0 ⟨(some 30), .mov, [.t 10], none⟩
    (PT.step 1 ⟨(some 31), .mov, [.t 11], none⟩
    (PT.step 2 ⟨(some 32), .bin .leq, [.t 30, .t 31], none⟩
    (PT.step 3 ⟨(some 33), .mov, [.t 32], none⟩
    (PT.step 4 ⟨(some 34), .mov, [.t 0], (some (33, true))⟩
    (PT.step 5 ⟨(some 35), .mov, [.t 10], (some (33, true))⟩
    (PT.step 8 ⟨(some 38), .mov, [.t 0], (some (33, true))⟩
    (PT.step 9 ⟨(some 39), .mov, [.t 1], (some (33, true))⟩
    (PT.step 6 ⟨(some 36), .idxp 1, [.t 34, .t 35], (some (33, true))⟩
    (PT.step 7 ⟨(some 37), .load false 1, [.t 36], (some (33, true))⟩
    (PT.step 10 ⟨(some 40), .idxp 1, [.t 38, .t 39], (some (33, true))⟩
    (PT.step 11 ⟨(some 41), .load false 1, [.t 40], (some (33, true))⟩
    (PT.step 12 ⟨(some 42), .call 87, [.t 37, .t 41], (some (33, true))⟩
    (PT.step 13 ⟨(some 43), .pick, [.t 33, .t 42, .c (.bool false)], none⟩
    PT.done)))))))))))))))
   (AC.cond (.t 43)
    AC.skip
    (AC.exit 0)))
   (AC.block 1
    (AC.reg [
     ⟨(some 44), .mov, [.t 10], none⟩,
     ⟨(some 45), .bin .add, [.t 44, .c (.int .i64 1)], none⟩,
     ⟨(some 10), .mov, [.t 45], none⟩])))))
 (AC.seq (AC.block 2
  (AC.loop
   (AC.seq (AC.seq (AC.par
    (PT.step 0 ⟨(some 46), .mov, [.t 10], none⟩
    (PT.step 1 ⟨(some 47), .mov, [.t 11], none⟩
    (PT.step 2 ⟨(some 48), .bin .leq, [.t 46, .t 47], none⟩
    (PT.step 3 ⟨(some 49), .mov, [.t 48], none⟩
    (PT.step 4 ⟨(some 50), .mov, [.t 0], (some (49, true))⟩
    (PT.step 5 ⟨(some 51), .mov, [.t 11], (some (49, true))⟩
    (PT.step 8 ⟨(some 54), .mov, [.t 0], (some (49, true))⟩
    (PT.step 9 ⟨(some 55), .mov, [.t 1], (some (49, true))⟩
    (PT.step 6 ⟨(some 52), .idxp 1, [.t 50, .t 51], (some (49, true))⟩
    (PT.step 7 ⟨(some 53), .load false 1, [.t 52], (some (49, true))⟩
    (PT.step 10 ⟨(some 56), .idxp 1, [.t 54, .t 55], (some (49, true))⟩
    (PT.step 11 ⟨(some 57), .load false 1, [.t 56], (some (49, true))⟩
    (PT.step 12 ⟨(some 58), .call 87, [.t 53, .t 57], (some (49, true))⟩
    (PT.step 13 ⟨(some 59), .un .not, [.t 58], (some (49, true))⟩
    (PT.step 14 ⟨(some 60), .pick, [.t 49, .t 59, .c (.bool false)], none⟩
    PT.done))))))))))))))))
   (AC.cond (.t 60)
    AC.skip
    (AC.exit 2)))
   (AC.block 3
    (AC.reg [
     ⟨(some 61), .mov, [.t 11], none⟩,
     ⟨(some 62), .bin .sub, [.t 61, .c (.int .i64 1)], none⟩,
     ⟨(some 11), .mov, [.t 62], none⟩])))))
 (AC.seq (AC.seq (AC.reg [
  ⟨(some 63), .mov, [.t 10], none⟩,
  ⟨(some 64), .mov, [.t 11], none⟩,
  ⟨(some 65), .bin .gtr, [.t 63, .t 64], none⟩])
 (AC.cond (.t 65)
  (AC.seq (AC.par
   (PT.step 0 ⟨(some 66), .mov, [.t 0], none⟩
   (PT.step 1 ⟨(some 67), .mov, [.t 11], none⟩
   (PT.step 2 ⟨(some 68), .mov, [.t 0], none⟩
   (PT.step 3 ⟨(some 69), .mov, [.t 1], none⟩
   (PT.step 4 ⟨(some 70), .mov, [.t 0], none⟩
   (PT.step 5 ⟨(some 71), .mov, [.t 1], none⟩
   (PT.step 8 ⟨(some 74), .mov, [.t 0], none⟩
   (PT.step 9 ⟨(some 75), .mov, [.t 11], none⟩
   (PT.step 6 ⟨(some 72), .idxp 1, [.t 70, .t 71], none⟩
   (PT.step 7 ⟨(some 73), .load false 1, [.t 72], none⟩
   (PT.step 10 ⟨(some 76), .idxp 1, [.t 74, .t 75], none⟩
   (PT.step 11 ⟨(some 77), .load false 1, [.t 76], none⟩
   (PT.step 12 ⟨(some 78), .idxp 1, [.t 66, .t 67], none⟩
   (PT.step 13 ⟨none, .store 1, [.t 78, .t 73], none⟩
   (PT.step 14 ⟨(some 79), .idxp 1, [.t 68, .t 69], none⟩
   (PT.step 15 ⟨none, .store 1, [.t 79, .t 77], none⟩
   PT.done)))))))))))))))))
  (AC.seq (AC.reg [
   ⟨(some 80), .mov, [.t 11], none⟩,
   ⟨(some 8), .mov, [.t 80], none⟩,
   ⟨(some 9), .mov, [.c (.bool true)], none⟩])
  AC.ret))
  AC.skip))
 (AC.seq (AC.par
  (PT.step 0 ⟨(some 81), .mov, [.t 0], none⟩
  (PT.step 1 ⟨(some 82), .mov, [.t 10], none⟩
  (PT.step 2 ⟨(some 83), .mov, [.t 0], none⟩
  (PT.step 3 ⟨(some 84), .mov, [.t 11], none⟩
  (PT.step 4 ⟨(some 85), .mov, [.t 0], none⟩
  (PT.step 5 ⟨(some 86), .mov, [.t 11], none⟩
  (PT.step 8 ⟨(some 89), .mov, [.t 0], none⟩
  (PT.step 9 ⟨(some 90), .mov, [.t 10], none⟩
  (PT.step 6 ⟨(some 87), .idxp 1, [.t 85, .t 86], none⟩
  (PT.step 7 ⟨(some 88), .load false 1, [.t 87], none⟩
  (PT.step 10 ⟨(some 91), .idxp 1, [.t 89, .t 90], none⟩
  (PT.step 11 ⟨(some 92), .load false 1, [.t 91], none⟩
  (PT.step 12 ⟨(some 93), .idxp 1, [.t 81, .t 82], none⟩
  (PT.step 13 ⟨none, .store 1, [.t 93, .t 88], none⟩
  (PT.step 14 ⟨(some 94), .idxp 1, [.t 83, .t 84], none⟩
  (PT.step 15 ⟨none, .store 1, [.t 94, .t 92], none⟩
  PT.done)))))))))))))))))
 (AC.seq (AC.reg [
  ⟨(some 95), .mov, [.t 10], none⟩,
  ⟨(some 96), .bin .add, [.t 95, .c (.int .i64 1)], none⟩,
  ⟨(some 10), .mov, [.t 96], none⟩])
 (AC.seq (AC.reg [
  ⟨(some 97), .mov, [.t 11], none⟩,
  ⟨(some 98), .bin .sub, [.t 97, .c (.int .i64 1)], none⟩,
  ⟨(some 11), .mov, [.t 98], none⟩])
 (AC.seq (AC.block 4
  (AC.loop
   (AC.block 5
    (AC.seq (AC.block 6
     (AC.loop
      (AC.seq (AC.seq (AC.par
       (PT.step 0 ⟨(some 99), .mov, [.t 10], none⟩
       (PT.step 1 ⟨(some 100), .mov, [.t 11], none⟩
       (PT.step 2 ⟨(some 101), .bin .leq, [.t 99, .t 100], none⟩
       (PT.step 3 ⟨(some 102), .mov, [.t 101], none⟩
       (PT.step 4 ⟨(some 103), .mov, [.t 0], (some (102, true))⟩
       (PT.step 5 ⟨(some 104), .mov, [.t 10], (some (102, true))⟩
       (PT.step 8 ⟨(some 107), .mov, [.t 0], (some (102, true))⟩
       (PT.step 9 ⟨(some 108), .mov, [.t 1], (some (102, true))⟩
       (PT.step 6 ⟨(some 105), .idxp 1, [.t 103, .t 104], (some (102, true))⟩
       (PT.step 7 ⟨(some 106), .load false 1, [.t 105], (some (102, true))⟩
       (PT.step 10 ⟨(some 109), .idxp 1, [.t 107, .t 108], (some (102, true))⟩
       (PT.step 11 ⟨(some 110), .load false 1, [.t 109], (some (102, true))⟩
       (PT.step 12 ⟨(some 111), .call 87, [.t 106, .t 110], (some (102, true))⟩
       (PT.step 13 ⟨(some 112), .pick, [.t 102, .t 111, .c (.bool false)], none⟩
       PT.done)))))))))))))))
      (AC.cond (.t 112)
       AC.skip
       (AC.exit 6)))
      (AC.block 7
       (AC.reg [
        ⟨(some 113), .mov, [.t 10], none⟩,
        ⟨(some 114), .bin .add, [.t 113, .c (.int .i64 1)], none⟩,
        ⟨(some 10), .mov, [.t 114], none⟩])))))
    (AC.seq (AC.block 8
     (AC.loop
      (AC.seq (AC.seq (AC.par
       (PT.step 0 ⟨(some 115), .mov, [.t 10], none⟩
       (PT.step 1 ⟨(some 116), .mov, [.t 11], none⟩
       (PT.step 2 ⟨(some 117), .bin .leq, [.t 115, .t 116], none⟩
       (PT.step 3 ⟨(some 118), .mov, [.t 117], none⟩
       (PT.step 4 ⟨(some 119), .mov, [.t 0], (some (118, true))⟩
       (PT.step 5 ⟨(some 120), .mov, [.t 11], (some (118, true))⟩
       (PT.step 8 ⟨(some 123), .mov, [.t 0], (some (118, true))⟩
       (PT.step 9 ⟨(some 124), .mov, [.t 1], (some (118, true))⟩
       (PT.step 6 ⟨(some 121), .idxp 1, [.t 119, .t 120], (some (118, true))⟩
       (PT.step 7 ⟨(some 122), .load false 1, [.t 121], (some (118, true))⟩
       (PT.step 10 ⟨(some 125), .idxp 1, [.t 123, .t 124], (some (118, true))⟩
       (PT.step 11 ⟨(some 126), .load false 1, [.t 125], (some (118, true))⟩
       (PT.step 12 ⟨(some 127), .call 87, [.t 122, .t 126], (some (118, true))⟩
       (PT.step 13 ⟨(some 128), .un .not, [.t 127], (some (118, true))⟩
       (PT.step 14 ⟨(some 129), .pick, [.t 118, .t 128, .c (.bool false)], none⟩
       PT.done))))))))))))))))
      (AC.cond (.t 129)
       AC.skip
       (AC.exit 8)))
      (AC.block 9
       (AC.reg [
        ⟨(some 130), .mov, [.t 11], none⟩,
        ⟨(some 131), .bin .sub, [.t 130, .c (.int .i64 1)], none⟩,
        ⟨(some 11), .mov, [.t 131], none⟩])))))
    (AC.seq (AC.seq (AC.reg [
     ⟨(some 132), .mov, [.t 10], none⟩,
     ⟨(some 133), .mov, [.t 11], none⟩,
     ⟨(some 134), .bin .gtr, [.t 132, .t 133], none⟩])
    (AC.cond (.t 134)
     (AC.exit 4)
     AC.skip))
    (AC.seq (AC.par
     (PT.step 0 ⟨(some 135), .mov, [.t 0], none⟩
     (PT.step 1 ⟨(some 136), .mov, [.t 10], none⟩
     (PT.step 2 ⟨(some 137), .mov, [.t 0], none⟩
     (PT.step 3 ⟨(some 138), .mov, [.t 11], none⟩
     (PT.step 4 ⟨(some 139), .mov, [.t 0], none⟩
     (PT.step 5 ⟨(some 140), .mov, [.t 11], none⟩
     (PT.step 8 ⟨(some 143), .mov, [.t 0], none⟩
     (PT.step 9 ⟨(some 144), .mov, [.t 10], none⟩
     (PT.step 6 ⟨(some 141), .idxp 1, [.t 139, .t 140], none⟩
     (PT.step 7 ⟨(some 142), .load false 1, [.t 141], none⟩
     (PT.step 10 ⟨(some 145), .idxp 1, [.t 143, .t 144], none⟩
     (PT.step 11 ⟨(some 146), .load false 1, [.t 145], none⟩
     (PT.step 12 ⟨(some 147), .idxp 1, [.t 135, .t 136], none⟩
     (PT.step 13 ⟨none, .store 1, [.t 147, .t 142], none⟩
     (PT.step 14 ⟨(some 148), .idxp 1, [.t 137, .t 138], none⟩
     (PT.step 15 ⟨none, .store 1, [.t 148, .t 146], none⟩
     PT.done)))))))))))))))))
    (AC.seq (AC.reg [
     ⟨(some 149), .mov, [.t 10], none⟩,
     ⟨(some 150), .bin .add, [.t 149, .c (.int .i64 1)], none⟩,
     ⟨(some 10), .mov, [.t 150], none⟩])
    (AC.reg [
     ⟨(some 151), .mov, [.t 11], none⟩,
     ⟨(some 152), .bin .sub, [.t 151, .c (.int .i64 1)], none⟩,
     ⟨(some 11), .mov, [.t 152], none⟩])))))))))
 (AC.seq (AC.par
  (PT.step 0 ⟨(some 153), .mov, [.t 0], none⟩
  (PT.step 1 ⟨(some 154), .mov, [.t 11], none⟩
  (PT.step 2 ⟨(some 155), .mov, [.t 0], none⟩
  (PT.step 3 ⟨(some 156), .mov, [.t 1], none⟩
  (PT.step 4 ⟨(some 157), .mov, [.t 0], none⟩
  (PT.step 5 ⟨(some 158), .mov, [.t 1], none⟩
  (PT.step 8 ⟨(some 161), .mov, [.t 0], none⟩
  (PT.step 9 ⟨(some 162), .mov, [.t 11], none⟩
  (PT.step 6 ⟨(some 159), .idxp 1, [.t 157, .t 158], none⟩
  (PT.step 7 ⟨(some 160), .load false 1, [.t 159], none⟩
  (PT.step 10 ⟨(some 163), .idxp 1, [.t 161, .t 162], none⟩
  (PT.step 11 ⟨(some 164), .load false 1, [.t 163], none⟩
  (PT.step 12 ⟨(some 165), .idxp 1, [.t 153, .t 154], none⟩
  (PT.step 13 ⟨none, .store 1, [.t 165, .t 160], none⟩
  (PT.step 14 ⟨(some 166), .idxp 1, [.t 155, .t 156], none⟩
  (PT.step 15 ⟨none, .store 1, [.t 166, .t 164], none⟩
  PT.done)))))))))))))))))
 (AC.seq (AC.reg [
  ⟨(some 167), .mov, [.t 11], none⟩,
  ⟨(some 8), .mov, [.t 167], none⟩,
  ⟨(some 9), .mov, [.c (.bool false)], none⟩])
 AC.ret))))))))))))
def r89 : AC × List RT × Nat := (c89, [.tmp 8, .tmp 9], 168)
theorem ok89e : compF Tryz.prog Tryz.f89 ⟨true, false, []⟩ = some r89 := by kernel_rfl
variable {E : Env}
theorem partition_c (hP : E.P = Tryz.prog) (W : AW) (r n a b pivot : Nat) (d : Array Int) (hn : d.size = n) (hab : a < b) (hb : b ≤ n) (hpv : pivot < n) (hsm : n < 2 ^ 48) :
    ACalls E 89 [.slr r 0 n 1, .int .i64 a, .int .i64 b, .int .i64 pivot] (pv W r d) fun X W' => X = .tuple [.int .i64 (partition ltInt d a b pivot).1, .bool (partition ltInt d a b pivot).2.1] ∧ W' = pv W r (partition ltInt d a b pivot).2.2 := by
  refine ACalls.of hP Tryz.func89 ok89e (by simp) fun _ hok => ?_
  have gt : partition ltInt d a b pivot = (let d := swp d a pivot
    let i := scanUp (fun x => ltInt x d[a]!) d (b - 1) (a + 1)
    let j := scanDown (fun x => !ltInt x d[a]!) d i (b - 1)
    if i > j then (j, true, swp d j a) else
      let r := partLoop ltInt a (i + 1) (j - 1) (swp d i j)
      (r.1, false, swp r.2 r.1 a)) := rfl
  obtain ⟨d0, hd0⟩ : ∃ d0, d0 = swp d a pivot := ⟨_, rfl⟩
  have gs : d0.size = n := by rw [hd0]; simp [swp, hn]
  obtain ⟨i0, hi0⟩ : ∃ i0, i0 = a + 1 := ⟨_, rfl⟩
  obtain ⟨j0, hj0⟩ : ∃ j0, j0 = b - 1 := ⟨_, rfl⟩
  simp only [← hd0, ← hi0, ← hj0] at gt
  simp (disch := (try simp only [sz_set]) <;> omega) only [c89, e_seq, e_reg, e_block, e_par, e_done, e_step, e_cons, e_nil, e_plain, evs_nil, evs_cons, ev_t, ev_c, argsA_ap, e_putK, e_putd, e_putd0, e_put, e_then, ↓reduceIte, Nat.reduceEqDiff, reduceCtorEq, List.getElem?_cons_zero, List.getElem?_cons_succ, sem_mov, sem_add, sem_sub, ix, ld, st, sw, wadd1, wsub1, ← hd0, ← hi0, ← hj0]
  refine awp_mono _ (Q := fun e A' W' => e = .exit 0 ∧ A' 0 = some (.slr r 0 n 1) ∧ A' 1 = some (.int .i64 a) ∧ A' 10 = some (.int .i64 ((scanUp (fun x => ltInt x d0[a]!) d0 j0 i0 : Nat) : Int)) ∧ A' 11 = some (.int .i64 (j0 : Nat)) ∧ W' = pv W r d0 ∧ i0 ≤ scanUp (fun x => ltInt x d0[a]!) d0 j0 i0 ∧ scanUp (fun x => ltInt x d0[a]!) d0 j0 i0 ≤ n) ?_ ?_
  rotate_left
  · rw [e_loop]
    refine ALoop.go (B := awp E _) (fun h => awp_mono _ h) (fun (s : Nat) A2 W2 => A2 0 = some (.slr r 0 n 1) ∧ A2 1 = some (.int .i64 a) ∧ A2 10 = some (.int .i64 (s : Int)) ∧ A2 11 = some (.int .i64 (j0 : Nat)) ∧ W2 = pv W r d0 ∧ i0 ≤ s ∧ s ≤ n ∧ scanUp (fun x => ltInt x d0[a]!) d0 j0 s = scanUp (fun x => ltInt x d0[a]!) d0 j0 i0) (fun s => j0 + 1 - s) i0
      ⟨by rfl, by rfl, by rfl, by rfl, rfl, Nat.le_refl _, by omega, rfl⟩ ?_
    rintro s A2 W2 ⟨q0, q1, qm, qf, rfl, qi, qin, qt⟩ _
    rw [scanUp.eq_def (fun x => ltInt x d0[a]!) d0 j0 s] at qt
    by_cases h1 : s ≤ j0
    · simp (disch := omega) only [e_seq, e_par, e_step, e_plain, guard_if, evs_nil, evs_cons, ev_t, e_putK, e_putd, e_put, e_then, ↓reduceIte, Nat.reduceEqDiff, reduceCtorEq, List.map_cons, List.map_nil, frz_int, sem_mov, sem_leq, sem_call, q0, q1, qm, qf, cle, h1, decide_true, ix, ld]
      refine (less_c hP _ _ _).mono ?_
      rintro X W' ⟨rfl, rfl⟩
      by_cases h2 : d0[s]! < d0[a]!
      · simp (disch := omega) only [e_reg, cond_if, e_block, e_skip, e_done, e_step, e_cons, e_nil, e_plain, evs_nil, evs_cons, ev_t, ev_c, e_putK, e_putd, e_put, e_then, e_blk, ↓reduceIte, Nat.reduceEqDiff, reduceCtorEq, sem_mov, sem_pick, sem_add, h2, decide_true, q0, q1, qm, qf, wadd1]
        exact ⟨s + 1, ⟨trivial, trivial, rfl, trivial, trivial, by omega, by omega, by rw [← qt, if_pos (by simp [h1, ltInt, h2])]⟩, by omega, Nat.le_refl _⟩
      · rw [if_neg (by simp [ltInt, h2])] at qt
        simp (disch := omega) only [cond_if, e_exit, e_done, e_step, e_plain, evs_nil, evs_cons, ev_t, ev_c, e_putK, e_putd, e_put, e_then_exit, ↓reduceIte, Nat.reduceEqDiff, reduceCtorEq, Bool.false_eq_true, sem_pick, h2, decide_false, q0, q1, qm, qf]
        exact ⟨trivial, trivial, trivial, by rw [← qt], trivial, trivial, by rw [← qt]; exact qi, by rw [← qt]; exact qin⟩
    · rw [if_neg (by simp [h1])] at qt
      simp (disch := omega) only [e_seq, cond_if, e_exit, e_par, e_done, e_step, e_plain, guard_if, evs_nil, evs_cons, ev_t, ev_c, e_putK, e_putd, e_put, e_then, e_then_exit, ↓reduceIte, Nat.reduceEqDiff, reduceCtorEq, Bool.false_eq_true, sem_mov, sem_pick, sem_leq, q0, q1, qm, qf, cle, h1, decide_false]
      exact ⟨trivial, trivial, trivial, by rw [← qt], trivial, trivial, by rw [← qt]; exact qi, by rw [← qt]; exact qin⟩
  rintro e A2 W2 ⟨rfl, u0, u1, u10, u11, rfl, ui, un⟩
  simp only [e_seq, e_block, e_then, e_blk_exit, ↓reduceIte]
  obtain ⟨i02, hi2⟩ : ∃ i02, i02 = scanUp (fun x => ltInt x d0[a]!) d0 j0 i0 := ⟨_, rfl⟩
  rw [← hi2] at u10 ui un gt
  refine awp_mono _ (Q := fun e A' W' => e = .exit 2 ∧ A' 0 = some (.slr r 0 n 1) ∧ A' 1 = some (.int .i64 a) ∧ A' 11 = some (.int .i64 ((scanDown (fun x => !ltInt x d0[a]!) d0 i02 j0 : Nat) : Int)) ∧ A' 10 = some (.int .i64 (i02 : Nat)) ∧ W' = pv W r d0 ∧ scanDown (fun x => !ltInt x d0[a]!) d0 i02 j0 ≤ j0) ?_ ?_
  rotate_left
  · rw [e_loop]
    refine ALoop.go (B := awp E _) (fun h => awp_mono _ h) (fun (s : Nat) A2 W2 => A2 0 = some (.slr r 0 n 1) ∧ A2 1 = some (.int .i64 a) ∧ A2 11 = some (.int .i64 (s : Int)) ∧ A2 10 = some (.int .i64 (i02 : Nat)) ∧ W2 = pv W r d0 ∧ s ≤ j0 ∧ scanDown (fun x => !ltInt x d0[a]!) d0 i02 s = scanDown (fun x => !ltInt x d0[a]!) d0 i02 j0) (fun s => s) j0
      ⟨by assumption, by assumption, by assumption, by assumption, rfl, Nat.le_refl _, rfl⟩ ?_
    rintro s A2 W2 ⟨q0, q1, qm, qf, rfl, qi, qt⟩ _
    by_cases h1 : i02 ≤ s
    · obtain ⟨s, rfl⟩ : ∃ s', s = s' + 1 := ⟨s - 1, by omega⟩
      rw [scanDown] at qt
      simp (disch := omega) only [e_seq, e_par, e_step, e_plain, guard_if, evs_nil, evs_cons, ev_t, e_putK, e_putd, e_put, e_then, ↓reduceIte, Nat.reduceEqDiff, reduceCtorEq, List.map_cons, List.map_nil, frz_int, sem_mov, sem_leq, sem_call, q0, q1, qm, qf, cle, h1, decide_true, ix, ld]
      refine (less_c hP _ _ _).mono ?_
      rintro X W' ⟨rfl, rfl⟩
      by_cases h2 : d0[s + 1]! < d0[a]!
      · rw [if_neg (by simp [ltInt, h2])] at qt
        simp (disch := omega) only [cond_if, e_exit, e_done, e_step, e_plain, guard_if, evs_nil, evs_cons, ev_t, ev_c, e_putK, e_putd, e_put, e_then_exit, ↓reduceIte, Nat.reduceEqDiff, reduceCtorEq, Bool.false_eq_true, sem_pick, sem_not, h2, decide_true, Bool.not_true, q0, q1, qm, qf]
        exact ⟨trivial, trivial, trivial, by rw [← qt], trivial, trivial, by rw [← qt]; exact qi⟩
      · simp (disch := omega) only [e_reg, cond_if, e_block, e_skip, e_done, e_step, e_cons, e_nil, e_plain, guard_if, evs_nil, evs_cons, ev_t, ev_c, e_putK, e_putd, e_put, e_then, e_blk, ↓reduceIte, Nat.reduceEqDiff, reduceCtorEq, sem_mov, sem_pick, sem_sub, sem_not, h2, decide_false, Bool.not_false, q0, q1, qm, qf, wsub1, Nat.add_sub_cancel]
        exact ⟨s, ⟨trivial, trivial, rfl, trivial, trivial, by omega, by rw [← qt, if_pos (by simp [h1, ltInt, h2])]⟩, by omega, Nat.le_refl _⟩
    · replace qt : s = scanDown (fun x => !ltInt x d0[a]!) d0 i02 j0 := by
        rw [← qt]; cases s with
        | zero => rfl
        | succ s => rw [scanDown, if_neg (by simp [h1])]
      simp (disch := omega) only [e_seq, cond_if, e_exit, e_par, e_done, e_step, e_plain, guard_if, evs_nil, evs_cons, ev_t, ev_c, e_putK, e_putd, e_put, e_then, e_then_exit, ↓reduceIte, Nat.reduceEqDiff, reduceCtorEq, Bool.false_eq_true, sem_mov, sem_pick, sem_leq, q0, q1, qm, qf, cle, h1, decide_false]
      exact ⟨trivial, trivial, trivial, by rw [← qt], trivial, trivial, by rw [← qt]; exact qi⟩
  rintro e A2 W2 ⟨rfl, v0, v1, v11, v10, rfl, vj⟩
  obtain ⟨j2, hj2⟩ : ∃ j2, j2 = scanDown (fun x => !ltInt x d0[a]!) d0 i02 j0 := ⟨_, rfl⟩
  rw [← hj2] at v11 vj gt
  by_cases h3 : i02 > j2
  · rw [if_pos h3] at gt
    simp (disch := (try simp only [sz_set]) <;> omega) only [e_seq, e_reg, cond_if, e_ret, e_par, e_done, e_step, e_cons, e_nil, e_plain, evs_nil, evs_cons, ev_t, ev_c, e_putK, e_putd, e_putd0, e_put, e_then, e_then_ret, e_blk_exit, retQ_ret, e_res2, ↓reduceIte, Nat.reduceEqDiff, reduceCtorEq, frz_int, frz_bool, sem_mov, sem_gtr, v0, v1, v10, v11, cgt, h3, decide_true, ix, ld, st, sw]
    exact ⟨_, rfl, _, _, .weak weak_id, Nat.le_refl _, by rw [gt], by rw [gt]⟩
  · rw [if_neg h3] at gt
    simp (disch := (try simp only [sz_set]) <;> omega) only [e_seq, e_reg, cond_if, e_block, e_skip, e_par, e_done, e_step, e_cons, e_nil, e_plain, evs_nil, evs_cons, ev_t, ev_c, e_putK, e_putd, e_putd0, e_put, e_then, e_blk_exit, ↓reduceIte, Nat.reduceEqDiff, reduceCtorEq, Bool.false_eq_true, sem_mov, sem_add, sem_sub, sem_gtr, v0, v10, v11, cgt, h3, decide_false, ix, ld, st, sw, wadd1, wsub1]
    rw [e_loop]
    refine ALoop.go (B := awp E _) (fun h => awp_mono _ h) (fun (s : Nat × Nat × Array Int) A1 W1 => A1 0 = some (.slr r 0 n 1) ∧ A1 1 = some (.int .i64 a) ∧ A1 10 = some (.int .i64 s.1) ∧ A1 11 = some (.int .i64 s.2.1) ∧
      W1 = pv W r s.2.2 ∧ a < s.1 ∧ s.1 ≤ n ∧ s.2.1 < n ∧ s.2.2.size = n ∧ partLoop ltInt a s.1 s.2.1 s.2.2 = partLoop ltInt a (i02 + 1) (j2 - 1) (swp d0 i02 j2)) (fun s => s.2.1 + 1 - s.1) (i02 + 1, j2 - 1, swp d0 i02 j2)
      ⟨by simp only [e_put, ↓reduceIte, reduceCtorEq, v0], by simp only [e_put, ↓reduceIte, Nat.reduceEqDiff, v1], rfl, rfl, rfl, by simp; omega, by simp; omega, by simp; omega, by simp [swp, gs], rfl⟩ ?_
    rintro ⟨i, j, d1⟩ A1 W1 ⟨g0, g1, g10, g11, rfl, gi, gin, gj, gs1, gt1⟩ _
    simp only at g10 g11 gi gin gj gs1 gt1
    rw [partLoop_eq] at gt1
    simp only [e_seq, e_block]
    refine awp_mono _ (Q := fun e A' W' => e = .exit 6 ∧ A' 0 = some (.slr r 0 n 1) ∧ A' 1 = some (.int .i64 a) ∧ A' 10 = some (.int .i64 ((scanUp (fun x => ltInt x d1[a]!) d1 j i : Nat) : Int)) ∧ A' 11 = some (.int .i64 (j : Nat)) ∧ W' = pv W r d1 ∧ i ≤ scanUp (fun x => ltInt x d1[a]!) d1 j i ∧ scanUp (fun x => ltInt x d1[a]!) d1 j i ≤ n) ?_ ?_
    rotate_left
    · rw [e_loop]
      refine ALoop.go (B := awp E _) (fun h => awp_mono _ h) (fun (s : Nat) A2 W2 => A2 0 = some (.slr r 0 n 1) ∧ A2 1 = some (.int .i64 a) ∧ A2 10 = some (.int .i64 (s : Int)) ∧ A2 11 = some (.int .i64 (j : Nat)) ∧ W2 = pv W r d1 ∧ i ≤ s ∧ s ≤ n ∧ scanUp (fun x => ltInt x d1[a]!) d1 j s = scanUp (fun x => ltInt x d1[a]!) d1 j i) (fun s => j + 1 - s) i
        ⟨by assumption, by assumption, by assumption, by assumption, rfl, Nat.le_refl _, by omega, rfl⟩ ?_
      rintro s A2 W2 ⟨q0, q1, qm, qf, rfl, qi, qin, qt⟩ _
      rw [scanUp.eq_def (fun x => ltInt x d1[a]!) d1 j s] at qt
      by_cases h1 : s ≤ j
      · simp (disch := omega) only [e_seq, e_par, e_step, e_plain, guard_if, evs_nil, evs_cons, ev_t, e_putK, e_putd, e_put, e_then, ↓reduceIte, Nat.reduceEqDiff, reduceCtorEq, List.map_cons, List.map_nil, frz_int, sem_mov, sem_leq, sem_call, q0, q1, qm, qf, cle, h1, decide_true, ix, ld]
        refine (less_c hP _ _ _).mono ?_
        rintro X W' ⟨rfl, rfl⟩
        by_cases h2 : d1[s]! < d1[a]!
        · simp (disch := omega) only [e_reg, cond_if, e_block, e_skip, e_done, e_step, e_cons, e_nil, e_plain, evs_nil, evs_cons, ev_t, ev_c, e_putK, e_putd, e_put, e_then, e_blk, ↓reduceIte, Nat.reduceEqDiff, reduceCtorEq, sem_mov, sem_pick, sem_add, h2, decide_true, q0, q1, qm, qf, wadd1]
          exact ⟨s + 1, ⟨trivial, trivial, rfl, trivial, trivial, by omega, by omega, by rw [← qt, if_pos (by simp [h1, ltInt, h2])]⟩, by omega, Nat.le_refl _⟩
        · rw [if_neg (by simp [ltInt, h2])] at qt
          simp (disch := omega) only [cond_if, e_exit, e_done, e_step, e_plain, evs_nil, evs_cons, ev_t, ev_c, e_putK, e_putd, e_put, e_then_exit, ↓reduceIte, Nat.reduceEqDiff, reduceCtorEq, Bool.false_eq_true, sem_pick, h2, decide_false, q0, q1, qm, qf]
          exact ⟨trivial, trivial, trivial, by rw [← qt], trivial, trivial, by rw [← qt]; exact qi, by rw [← qt]; exact qin⟩
      · rw [if_neg (by simp [h1])] at qt
        simp (disch := omega) only [e_seq, cond_if, e_exit, e_par, e_done, e_step, e_plain, guard_if, evs_nil, evs_cons, ev_t, ev_c, e_putK, e_putd, e_put, e_then, e_then_exit, ↓reduceIte, Nat.reduceEqDiff, reduceCtorEq, Bool.false_eq_true, sem_mov, sem_pick, sem_leq, q0, q1, qm, qf, cle, h1, decide_false]
        exact ⟨trivial, trivial, trivial, by rw [← qt], trivial, trivial, by rw [← qt]; exact qi, by rw [← qt]; exact qin⟩
    rintro e A2 W2 ⟨rfl, x0, x1, x10, x11, rfl, xi, xn⟩
    simp only [e_seq, e_block, e_then, e_blk_exit, ↓reduceIte]
    obtain ⟨i2, hi2⟩ : ∃ i2, i2 = scanUp (fun x => ltInt x d1[a]!) d1 j i := ⟨_, rfl⟩
    rw [← hi2] at x10 xi xn gt1
    refine awp_mono _ (Q := fun e A' W' => e = .exit 8 ∧ A' 0 = some (.slr r 0 n 1) ∧ A' 1 = some (.int .i64 a) ∧ A' 11 = some (.int .i64 ((scanDown (fun x => !ltInt x d1[a]!) d1 i2 j : Nat) : Int)) ∧ A' 10 = some (.int .i64 (i2 : Nat)) ∧ W' = pv W r d1 ∧ scanDown (fun x => !ltInt x d1[a]!) d1 i2 j ≤ j) ?_ ?_
    rotate_left
    · rw [e_loop]
      refine ALoop.go (B := awp E _) (fun h => awp_mono _ h) (fun (s : Nat) A2 W2 => A2 0 = some (.slr r 0 n 1) ∧ A2 1 = some (.int .i64 a) ∧ A2 11 = some (.int .i64 (s : Int)) ∧ A2 10 = some (.int .i64 (i2 : Nat)) ∧ W2 = pv W r d1 ∧ s ≤ j ∧ scanDown (fun x => !ltInt x d1[a]!) d1 i2 s = scanDown (fun x => !ltInt x d1[a]!) d1 i2 j) (fun s => s) j
        ⟨by assumption, by assumption, by assumption, by assumption, rfl, Nat.le_refl _, rfl⟩ ?_
      rintro s A2 W2 ⟨q0, q1, qm, qf, rfl, qi, qt⟩ _
      by_cases h1 : i2 ≤ s
      · obtain ⟨s, rfl⟩ : ∃ s', s = s' + 1 := ⟨s - 1, by omega⟩
        rw [scanDown] at qt
        simp (disch := omega) only [e_seq, e_par, e_step, e_plain, guard_if, evs_nil, evs_cons, ev_t, e_putK, e_putd, e_put, e_then, ↓reduceIte, Nat.reduceEqDiff, reduceCtorEq, List.map_cons, List.map_nil, frz_int, sem_mov, sem_leq, sem_call, q0, q1, qm, qf, cle, h1, decide_true, ix, ld]
        refine (less_c hP _ _ _).mono ?_
        rintro X W' ⟨rfl, rfl⟩
        by_cases h2 : d1[s + 1]! < d1[a]!
        · rw [if_neg (by simp [ltInt, h2])] at qt
          simp (disch := omega) only [cond_if, e_exit, e_done, e_step, e_plain, guard_if, evs_nil, evs_cons, ev_t, ev_c, e_putK, e_putd, e_put, e_then_exit, ↓reduceIte, Nat.reduceEqDiff, reduceCtorEq, Bool.false_eq_true, sem_pick, sem_not, h2, decide_true, Bool.not_true, q0, q1, qm, qf]
          exact ⟨trivial, trivial, trivial, by rw [← qt], trivial, trivial, by rw [← qt]; exact qi⟩
        · simp (disch := omega) only [e_reg, cond_if, e_block, e_skip, e_done, e_step, e_cons, e_nil, e_plain, guard_if, evs_nil, evs_cons, ev_t, ev_c, e_putK, e_putd, e_put, e_then, e_blk, ↓reduceIte, Nat.reduceEqDiff, reduceCtorEq, sem_mov, sem_pick, sem_sub, sem_not, h2, decide_false, Bool.not_false, q0, q1, qm, qf, wsub1, Nat.add_sub_cancel]
          exact ⟨s, ⟨trivial, trivial, rfl, trivial, trivial, by omega, by rw [← qt, if_pos (by simp [h1, ltInt, h2])]⟩, by omega, Nat.le_refl _⟩
      · replace qt : s = scanDown (fun x => !ltInt x d1[a]!) d1 i2 j := by
          rw [← qt]; cases s with
          | zero => rfl
          | succ s => rw [scanDown, if_neg (by simp [h1])]
        simp (disch := omega) only [e_seq, cond_if, e_exit, e_par, e_done, e_step, e_plain, guard_if, evs_nil, evs_cons, ev_t, ev_c, e_putK, e_putd, e_put, e_then, e_then_exit, ↓reduceIte, Nat.reduceEqDiff, reduceCtorEq, Bool.false_eq_true, sem_mov, sem_pick, sem_leq, q0, q1, qm, qf, cle, h1, decide_false]
        exact ⟨trivial, trivial, trivial, by rw [← qt], trivial, trivial, by rw [← qt]; exact qi⟩
    rintro e A2 W2 ⟨rfl, y0, y1, y11, y10, rfl, yj⟩
    obtain ⟨j3, hj3⟩ : ∃ j3, j3 = scanDown (fun x => !ltInt x d1[a]!) d1 i2 j := ⟨_, rfl⟩
    rw [← hj3] at y11 yj gt1
    by_cases h3 : i2 > j3
    · rw [if_pos h3] at gt1
      rw [← gt1] at gt
      simp (disch := (try simp only [sz_set]) <;> omega) only [e_seq, e_reg, cond_if, e_exit, e_ret, e_par, e_done, e_step, e_cons, e_nil, e_plain, evs_nil, evs_cons, ev_t, ev_c, e_putK, e_putd, e_putd0, e_put, e_then, e_then_exit, e_blk_exit, retQ_ret, e_res2, ↓reduceIte, Nat.reduceEqDiff, reduceCtorEq, frz_int, frz_bool, sem_mov, sem_gtr, y0, y1, y10, y11, cgt, h3, decide_true, ix, ld, st, sw]
      exact ⟨_, rfl, _, _, .weak weak_id, Nat.le_refl _, by rw [gt], by rw [gt]⟩
    · rw [if_neg h3] at gt1
      simp (disch := (try simp only [sz_set]) <;> omega) only [e_seq, e_reg, cond_if, e_skip, e_par, e_done, e_step, e_cons, e_nil, e_plain, evs_nil, evs_cons, ev_t, ev_c, e_putK, e_putd, e_putd0, e_put, e_then, e_blk, e_blk_exit, ↓reduceIte, Nat.reduceEqDiff, reduceCtorEq, Bool.false_eq_true, sem_mov, sem_add, sem_sub, sem_gtr, y0, y1, y10, y11, cgt, h3, decide_false, ix, ld, st, sw, wadd1, wsub1]
      exact ⟨(i2 + 1, j3 - 1, swp d1 i2 j3), ⟨trivial, trivial, rfl, rfl, rfl, by simp; omega, by simp; omega, by simp; omega, by simp [swp, gs1], gt1⟩, by simp; omega, Nat.le_refl _⟩
end Go.AL.S
set_option maxRecDepth 100000
namespace Go.AL.S
open Go Go.AL Go.Proofs Go.Sort
/- slices.insertionSortOrdered[uint16] -/
def c81 : AC := (AC.seq (AC.reg [
  ⟨(some 8), .mov, [.t 1], none⟩,
  ⟨(some 9), .bin .add, [.t 8, .c (.int .i64 1)], none⟩,
  ⟨(some 6), .mov, [.t 9], none⟩])
 (AC.block 0
  (AC.loop
   (AC.seq (AC.seq (AC.reg [
    ⟨(some 10), .mov, [.t 6], none⟩,
    ⟨(some 11), .mov, [.t 2], none⟩,
    ⟨(some 12), .bin .lss, [.t 10, .t 11], none⟩])
   (AC.cond (.t 12)
    AC.skip
    (AC.exit 0)))
   (AC.seq (AC.block 1
    (AC.seq (AC.reg [
     ⟨(some 15), .mov, [.t 6], none⟩,
     ⟨(some 7), .mov, [.t 15], none⟩])
    (AC.block 2
     (AC.loop
      (AC.seq (AC.seq (AC.par
       (PT.step 0 ⟨(some 16), .mov, [.t 7], none⟩
       (PT.step 1 ⟨(some 17), .mov, [.t 1], none⟩
       (PT.step 2 ⟨(some 18), .bin .gtr, [.t 16, .t 17], none⟩
       (PT.step 3 ⟨(some 19), .mov, [.t 18], none⟩
       (PT.step 4 ⟨(some 20), .mov, [.t 0], (some (19, true))⟩
       (PT.step 5 ⟨(some 21), .mov, [.t 7], (some (19, true))⟩
       (PT.step 8 ⟨(some 24), .mov, [.t 0], (some (19, true))⟩
       (PT.step 9 ⟨(some 25), .mov, [.t 7], (some (19, true))⟩
       (PT.step 10 ⟨(some 26), .bin .sub, [.t 25, .c (.int .i64 1)], (some (19, true))⟩
       (PT.step 6 ⟨(some 22), .idxp 1, [.t 20, .t 21], (some (19, true))⟩
       (PT.step 7 ⟨(some 23), .load false 1, [.t 22], (some (19, true))⟩
       (PT.step 11 ⟨(some 27), .idxp 1, [.t 24, .t 26], (some (19, true))⟩
       (PT.step 12 ⟨(some 28), .load false 1, [.t 27], (some (19, true))⟩
       (PT.step 13 ⟨(some 29), .call 87, [.t 23, .t 28], (some (19, true))⟩
       (PT.step 14 ⟨(some 30), .pick, [.t 19, .t 29, .c (.bool false)], none⟩
       PT.done))))))))))))))))
      (AC.cond (.t 30)
       AC.skip
       (AC.exit 2)))
      (AC.seq (AC.block 3
       (AC.par
        (PT.step 0 ⟨(some 33), .mov, [.t 0], none⟩
        (PT.step 1 ⟨(some 34), .mov, [.t 7], none⟩
        (PT.step 2 ⟨(some 35), .mov, [.t 0], none⟩
        (PT.step 3 ⟨(some 36), .mov, [.t 7], none⟩
        (PT.step 4 ⟨(some 37), .bin .sub, [.t 36, .c (.int .i64 1)], none⟩
        (PT.step 5 ⟨(some 38), .mov, [.t 0], none⟩
        (PT.step 6 ⟨(some 39), .mov, [.t 7], none⟩
        (PT.step 7 ⟨(some 40), .bin .sub, [.t 39, .c (.int .i64 1)], none⟩
        (PT.step 10 ⟨(some 43), .mov, [.t 0], none⟩
        (PT.step 11 ⟨(some 44), .mov, [.t 7], none⟩
        (PT.step 8 ⟨(some 41), .idxp 1, [.t 38, .t 40], none⟩
        (PT.step 9 ⟨(some 42), .load false 1, [.t 41], none⟩
        (PT.step 12 ⟨(some 45), .idxp 1, [.t 43, .t 44], none⟩
        (PT.step 13 ⟨(some 46), .load false 1, [.t 45], none⟩
        (PT.step 14 ⟨(some 47), .idxp 1, [.t 33, .t 34], none⟩
        (PT.step 15 ⟨none, .store 1, [.t 47, .t 42], none⟩
        (PT.step 16 ⟨(some 48), .idxp 1, [.t 35, .t 37], none⟩
        (PT.step 17 ⟨none, .store 1, [.t 48, .t 46], none⟩
        PT.done))))))))))))))))))))
      (AC.reg [
       ⟨(some 31), .mov, [.t 7], none⟩,
       ⟨(some 32), .bin .sub, [.t 31, .c (.int .i64 1)], none⟩,
       ⟨(some 7), .mov, [.t 32], none⟩])))))))
   (AC.reg [
    ⟨(some 13), .mov, [.t 6], none⟩,
    ⟨(some 14), .bin .add, [.t 13, .c (.int .i64 1)], none⟩,
    ⟨(some 6), .mov, [.t 14], none⟩]))))))
def r81 : AC × List RT × Nat := (c81, [], 49)
theorem ok81e : compF Tryz.prog Tryz.f81 ⟨true, false, []⟩ = some r81 := by kernel_rfl
variable {E : Env}
theorem insInner_size (lt : Int → Int → Bool) (a : Nat) : ∀ (j : Nat) (d : Array Int), (insInner lt a j d).size = d.size
  | 0, d => rfl
  | j + 1, d => by
    rw [insInner]
    split
    · rw [insInner_size]; simp [swp]
    · rfl
theorem insertion_c (hP : E.P = Tryz.prog) (W : AW) (r n a b : Nat) (d : Array Int) (hn : d.size = n) (hb : b ≤ n) (ha : a ≤ n) (hsm : n < 2 ^ 48) :
    ACalls E 81 [.slr r 0 n 1, .int .i64 a, .int .i64 b] (pv W r d) fun X W' => X = .tuple [] ∧ W' = pv W r (insertionSort ltInt d a b) := by
  refine ACalls.of hP Tryz.func81 ok81e (by simp) fun _ _ => ?_
  simp (disch := omega) only [c81, e_seq, e_reg, e_block, e_cons, e_nil, e_plain, evs_nil, evs_cons, ev_t, ev_c, argsA_ap, e_putK, e_putd, e_put, e_then, ↓reduceIte, List.getElem?_cons_zero, List.getElem?_cons_succ, sem_mov, sem_add, wadd1, e_loop]
  refine ALoop.go (B := awp E _) (fun h => awp_mono _ h) (fun (s : Nat × Array Int) A1 W1 => A1 0 = some (.slr r 0 n 1) ∧ A1 1 = some (.int .i64 a) ∧ A1 2 = some (.int .i64 b) ∧ A1 6 = some (.int .i64 s.1) ∧
    W1 = pv W r s.2 ∧ a + 1 ≤ s.1 ∧ s.1 ≤ n + 1 ∧ s.2.size = n ∧ insOuter ltInt a b s.1 s.2 = insertionSort ltInt d a b) (fun s => n + 1 - s.1) (a + 1, d)
    ⟨rfl, rfl, rfl, rfl, rfl, Nat.le_refl _, by simp; omega, hn, rfl⟩ ?_
  rintro ⟨i, d1⟩ A1 W1 ⟨g0, g1, g2, g6, rfl, gi, gn, gs, gt⟩ _
  simp only at g6 gi gn gs gt
  rw [insOuter] at gt
  by_cases hib : i < b
  · rw [if_pos hib] at gt
    simp only [e_seq, e_reg, cond_if, e_block, e_skip, e_cons, e_nil, e_plain, evs_nil, evs_cons, ev_t, e_putK, e_putd, e_put, e_then, ↓reduceIte, Nat.reduceEqDiff, sem_mov, sem_lss, g2, g6, clt, hib, decide_true]
    refine awp_mono _ (Q := fun e A' W' => e = .exit 2 ∧ A' 0 = some (.slr r 0 n 1) ∧ A' 1 = some (.int .i64 a) ∧ A' 2 = some (.int .i64 b) ∧ A' 6 = some (.int .i64 i) ∧ W' = pv W r (insInner ltInt a i d1)) ?_ ?_
    · rintro e A2 W2 ⟨rfl, q0, q1, q2, q6, rfl⟩
      simp (disch := omega) only [e_reg, e_cons, e_nil, e_plain, evs_nil, evs_cons, ev_t, ev_c, e_putK, e_putd, e_put, e_then, e_blk, e_blk_exit, ↓reduceIte, Nat.reduceEqDiff, reduceCtorEq, sem_mov, sem_add, q0, q1, q2, q6, wadd1]
      exact ⟨(i + 1, insInner ltInt a i d1), ⟨trivial, trivial, trivial, rfl, rfl, by simp; omega, by simp; omega, by rw [insInner_size, gs], gt⟩, by simp; omega, Nat.le_refl _⟩
    · rw [e_loop]
      refine ALoop.go (B := awp E _) (fun h => awp_mono _ h) (fun (s : Nat × Array Int) A2 W2 => A2 0 = some (.slr r 0 n 1) ∧ A2 1 = some (.int .i64 a) ∧ A2 2 = some (.int .i64 b) ∧ A2 6 = some (.int .i64 i) ∧ A2 7 = some (.int .i64 s.1) ∧
        W2 = pv W r s.2 ∧ s.1 ≤ i ∧ s.2.size = n ∧ insInner ltInt a s.1 s.2 = insInner ltInt a i d1) (fun s => s.1) (i, d1)
        ⟨by assumption, by assumption, by assumption, by assumption, rfl, rfl, by simp, gs, rfl⟩ ?_
      rintro ⟨j, d2⟩ A2 W2 ⟨q0, q1, q2, q6, q7, rfl, qi, qs, qt⟩ _
      simp only at q7 qi qs qt
      by_cases haj : a < j
      · obtain ⟨j, rfl⟩ : ∃ j', j = j' + 1 := ⟨j - 1, by omega⟩
        rw [insInner] at qt
        have haj' : j + 1 > a := haj
        simp (disch := omega) only [e_seq, e_par, e_step, e_plain, guard_if, evs_nil, evs_cons, ev_t, ev_c, e_putK, e_putd, e_put, e_then, ↓reduceIte, Nat.reduceEqDiff, reduceCtorEq, List.map_cons, List.map_nil, frz_int, sem_mov, sem_sub, sem_gtr, sem_call, q0, q1, q7, cgt, haj', decide_true, wsub1, Nat.add_sub_cancel, ix, ld]
        refine (less_c hP _ _ _).mono ?_
        rintro X W' ⟨rfl, rfl⟩
        by_cases hlt : d2[j + 1]! < d2[j]!
        · rw [if_pos (by simp [ltInt, hlt]; omega)] at qt
          simp (disch := (try simp only [sz_set]) <;> omega) only [e_seq, e_reg, cond_if, e_block, e_skip, e_par, e_done, e_step, e_cons, e_nil, e_plain, evs_nil, evs_cons, ev_t, ev_c, e_putK, e_putd, e_putd0, e_put, e_then, e_blk, ↓reduceIte, Nat.reduceEqDiff, reduceCtorEq, sem_mov, sem_pick, sem_sub, hlt, decide_true, q0, q1, q2, q6, q7, wsub1, Nat.add_sub_cancel, ix, ld, st, sw]
          exact ⟨(j, swp d2 (j + 1) j), ⟨trivial, trivial, trivial, trivial, rfl, rfl, by simp; omega, by simp [swp, qs], qt⟩, by simp, Nat.le_refl _⟩
        · rw [if_neg (by simp [ltInt, hlt])] at qt
          simp (disch := omega) only [cond_if, e_exit, e_done, e_step, e_plain, evs_nil, evs_cons, ev_t, ev_c, e_putK, e_putd, e_put, e_then_exit, ↓reduceIte, Nat.reduceEqDiff, reduceCtorEq, Bool.false_eq_true, sem_pick, hlt, decide_false, q0, q1, q2, q6]
          exact ⟨trivial, trivial, trivial, trivial, trivial, by rw [qt]⟩
      · have hc : ¬ j > a := haj
        simp (disch := omega) only [e_seq, cond_if, e_exit, e_par, e_done, e_step, e_plain, guard_if, evs_nil, evs_cons, ev_t, ev_c, e_putK, e_putd, e_put, e_then, e_then_exit, ↓reduceIte, Nat.reduceEqDiff, reduceCtorEq, Bool.false_eq_true, sem_mov, sem_pick, sem_gtr, q0, q1, q2, q6, q7, cgt, hc, decide_false]
        refine ⟨trivial, trivial, trivial, trivial, trivial, ?_⟩
        rw [← qt]
        cases j with
        | zero => rfl
        | succ m => rw [insInner, if_neg (by simp; omega)]
  · rw [if_neg hib] at gt
    simp only [e_seq, e_reg, cond_if, e_exit, e_cons, e_nil, e_plain, evs_nil, evs_cons, ev_t, e_putK, e_putd, e_put, e_then, e_then_exit, e_blk_exit, retQ_normal, e_res0, ↓reduceIte, Nat.reduceEqDiff, Bool.false_eq_true, sem_mov, sem_lss, g2, g6, clt, hib, decide_false]
    exact ⟨_, rfl, _, _, .weak weak_id, Nat.le_refl _, rfl, by rw [← gt]⟩
end Go.AL.S
set_option maxRecDepth 100000
namespace Go.AL.S
open Go Go.AL Go.Proofs Go.Sort
/- slices.partialInsertionSortOrdered[uint16] -/
def c86 : AC := (AC.seq (AC.reg [
  ⟨(some 6), .mov, [.c (.bool false)], none⟩])
 (AC.seq (AC.reg [
  ⟨(some 11), .mov, [.t 1], none⟩,
  ⟨(some 12), .bin .add, [.t 11, .c (.int .i64 1)], none⟩,
  ⟨(some 7), .mov, [.t 12], none⟩])
 (AC.seq (AC.seq (AC.reg [
  ⟨(some 8), .mov, [.c (.int .i64 0)], none⟩])
 (AC.block 0
  (AC.loop
   (AC.seq (AC.seq (AC.reg [
    ⟨(some 13), .mov, [.t 8], none⟩,
    ⟨(some 14), .bin .lss, [.t 13, .c (.int .i64 5)], none⟩])
   (AC.cond (.t 14)
    AC.skip
    (AC.exit 0)))
   (AC.seq (AC.block 1
    (AC.seq (AC.block 2
     (AC.loop
      (AC.seq (AC.seq (AC.par
       (PT.step 0 ⟨(some 17), .mov, [.t 7], none⟩
       (PT.step 1 ⟨(some 18), .mov, [.t 2], none⟩
       (PT.step 2 ⟨(some 19), .bin .lss, [.t 17, .t 18], none⟩
       (PT.step 3 ⟨(some 20), .mov, [.t 19], none⟩
       (PT.step 4 ⟨(some 21), .mov, [.t 0], (some (20, true))⟩
       (PT.step 5 ⟨(some 22), .mov, [.t 7], (some (20, true))⟩
       (PT.step 8 ⟨(some 25), .mov, [.t 0], (some (20, true))⟩
       (PT.step 9 ⟨(some 26), .mov, [.t 7], (some (20, true))⟩
       (PT.step 10 ⟨(some 27), .bin .sub, [.t 26, .c (.int .i64 1)], (some (20, true))⟩
       (PT.step 6 ⟨(some 23), .idxp 1, [.t 21, .t 22], (some (20, true))⟩
       (PT.step 7 ⟨(some 24), .load false 1, [.t 23], (some (20, true))⟩
       (PT.step 11 ⟨(some 28), .idxp 1, [.t 25, .t 27], (some (20, true))⟩
       (PT.step 12 ⟨(some 29), .load false 1, [.t 28], (some (20, true))⟩
       (PT.step 13 ⟨(some 30), .call 87, [.t 24, .t 29], (some (20, true))⟩
       (PT.step 14 ⟨(some 31), .un .not, [.t 30], (some (20, true))⟩
       (PT.step 15 ⟨(some 32), .pick, [.t 20, .t 31, .c (.bool false)], none⟩
       PT.done)))))))))))))))))
      (AC.cond (.t 32)
       AC.skip
       (AC.exit 2)))
      (AC.block 3
       (AC.reg [
        ⟨(some 33), .mov, [.t 7], none⟩,
        ⟨(some 34), .bin .add, [.t 33, .c (.int .i64 1)], none⟩,
        ⟨(some 7), .mov, [.t 34], none⟩])))))
    (AC.seq (AC.seq (AC.reg [
     ⟨(some 35), .mov, [.t 7], none⟩,
     ⟨(some 36), .mov, [.t 2], none⟩,
     ⟨(some 37), .bin .eql, [.t 35, .t 36], none⟩])
    (AC.cond (.t 37)
     (AC.seq (AC.reg [
      ⟨(some 6), .mov, [.c (.bool true)], none⟩])
     AC.ret)
     AC.skip))
    (AC.seq (AC.seq (AC.reg [
     ⟨(some 38), .mov, [.t 2], none⟩,
     ⟨(some 39), .mov, [.t 1], none⟩,
     ⟨(some 40), .bin .sub, [.t 38, .t 39], none⟩,
     ⟨(some 41), .bin .lss, [.t 40, .c (.int .i64 50)], none⟩])
    (AC.cond (.t 41)
     (AC.seq (AC.reg [
      ⟨(some 6), .mov, [.c (.bool false)], none⟩])
     AC.ret)
     AC.skip))
    (AC.seq (AC.par
     (PT.step 0 ⟨(some 42), .mov, [.t 0], none⟩
     (PT.step 1 ⟨(some 43), .mov, [.t 7], none⟩
     (PT.step 2 ⟨(some 44), .mov, [.t 0], none⟩
     (PT.step 3 ⟨(some 45), .mov, [.t 7], none⟩
     (PT.step 4 ⟨(some 46), .bin .sub, [.t 45, .c (.int .i64 1)], none⟩
     (PT.step 5 ⟨(some 47), .mov, [.t 0], none⟩
     (PT.step 6 ⟨(some 48), .mov, [.t 7], none⟩
     (PT.step 7 ⟨(some 49), .bin .sub, [.t 48, .c (.int .i64 1)], none⟩
     (PT.step 10 ⟨(some 52), .mov, [.t 0], none⟩
     (PT.step 11 ⟨(some 53), .mov, [.t 7], none⟩
     (PT.step 8 ⟨(some 50), .idxp 1, [.t 47, .t 49], none⟩
     (PT.step 9 ⟨(some 51), .load false 1, [.t 50], none⟩
     (PT.step 12 ⟨(some 54), .idxp 1, [.t 52, .t 53], none⟩
     (PT.step 13 ⟨(some 55), .load false 1, [.t 54], none⟩
     (PT.step 14 ⟨(some 56), .idxp 1, [.t 42, .t 43], none⟩
     (PT.step 15 ⟨none, .store 1, [.t 56, .t 51], none⟩
     (PT.step 16 ⟨(some 57), .idxp 1, [.t 44, .t 46], none⟩
     (PT.step 17 ⟨none, .store 1, [.t 57, .t 55], none⟩
     PT.done)))))))))))))))))))
    (AC.seq (AC.seq (AC.reg [
     ⟨(some 58), .mov, [.t 7], none⟩,
     ⟨(some 59), .mov, [.t 1], none⟩,
     ⟨(some 60), .bin .sub, [.t 58, .t 59], none⟩,
     ⟨(some 61), .bin .geq, [.t 60, .c (.int .i64 2)], none⟩])
    (AC.cond (.t 61)
     (AC.seq (AC.reg [
      ⟨(some 62), .mov, [.t 7], none⟩,
      ⟨(some 63), .bin .sub, [.t 62, .c (.int .i64 1)], none⟩,
      ⟨(some 9), .mov, [.t 63], none⟩])
     (AC.block 4
      (AC.loop
       (AC.seq (AC.seq (AC.reg [
        ⟨(some 64), .mov, [.t 9], none⟩,
        ⟨(some 65), .bin .geq, [.t 64, .c (.int .i64 1)], none⟩])
       (AC.cond (.t 65)
        AC.skip
        (AC.exit 4)))
       (AC.seq (AC.block 5
        (AC.seq (AC.seq (AC.par
         (PT.step 0 ⟨(some 68), .mov, [.t 0], none⟩
         (PT.step 1 ⟨(some 69), .mov, [.t 9], none⟩
         (PT.step 4 ⟨(some 72), .mov, [.t 0], none⟩
         (PT.step 5 ⟨(some 73), .mov, [.t 9], none⟩
         (PT.step 6 ⟨(some 74), .bin .sub, [.t 73, .c (.int .i64 1)], none⟩
         (PT.step 2 ⟨(some 70), .idxp 1, [.t 68, .t 69], none⟩
         (PT.step 3 ⟨(some 71), .load false 1, [.t 70], none⟩
         (PT.step 7 ⟨(some 75), .idxp 1, [.t 72, .t 74], none⟩
         (PT.step 8 ⟨(some 76), .load false 1, [.t 75], none⟩
         (PT.step 9 ⟨(some 77), .call 87, [.t 71, .t 76], none⟩
         (PT.step 10 ⟨(some 78), .un .not, [.t 77], none⟩
         PT.done))))))))))))
        (AC.cond (.t 78)
         (AC.exit 4)
         AC.skip))
        (AC.par
         (PT.step 0 ⟨(some 79), .mov, [.t 0], none⟩
         (PT.step 1 ⟨(some 80), .mov, [.t 9], none⟩
         (PT.step 2 ⟨(some 81), .mov, [.t 0], none⟩
         (PT.step 3 ⟨(some 82), .mov, [.t 9], none⟩
         (PT.step 4 ⟨(some 83), .bin .sub, [.t 82, .c (.int .i64 1)], none⟩
         (PT.step 5 ⟨(some 84), .mov, [.t 0], none⟩
         (PT.step 6 ⟨(some 85), .mov, [.t 9], none⟩
         (PT.step 7 ⟨(some 86), .bin .sub, [.t 85, .c (.int .i64 1)], none⟩
         (PT.step 10 ⟨(some 89), .mov, [.t 0], none⟩
         (PT.step 11 ⟨(some 90), .mov, [.t 9], none⟩
         (PT.step 8 ⟨(some 87), .idxp 1, [.t 84, .t 86], none⟩
         (PT.step 9 ⟨(some 88), .load false 1, [.t 87], none⟩
         (PT.step 12 ⟨(some 91), .idxp 1, [.t 89, .t 90], none⟩
         (PT.step 13 ⟨(some 92), .load false 1, [.t 91], none⟩
         (PT.step 14 ⟨(some 93), .idxp 1, [.t 79, .t 80], none⟩
         (PT.step 15 ⟨none, .store 1, [.t 93, .t 88], none⟩
         (PT.step 16 ⟨(some 94), .idxp 1, [.t 81, .t 83], none⟩
         (PT.step 17 ⟨none, .store 1, [.t 94, .t 92], none⟩
         PT.done)))))))))))))))))))))
       (AC.reg [
        ⟨(some 66), .mov, [.t 9], none⟩,
        ⟨(some 67), .bin .sub, [.t 66, .c (.int .i64 1)], none⟩,
        ⟨(some 9), .mov, [.t 67], none⟩]))))))
     AC.skip))
    (AC.seq (AC.reg [
     ⟨(some 95), .mov, [.t 2], none⟩,
     ⟨(some 96), .mov, [.t 7], none⟩,
     ⟨(some 97), .bin .sub, [.t 95, .t 96], none⟩,
     ⟨(some 98), .bin .geq, [.t 97, .c (.int .i64 2)], none⟩])
    (AC.cond (.t 98)
     (AC.seq (AC.reg [
      ⟨(some 99), .mov, [.t 7], none⟩,
      ⟨(some 100), .bin .add, [.t 99, .c (.int .i64 1)], none⟩,
      ⟨(some 10), .mov, [.t 100], none⟩])
     (AC.block 6
      (AC.loop
       (AC.seq (AC.seq (AC.reg [
        ⟨(some 101), .mov, [.t 10], none⟩,
        ⟨(some 102), .mov, [.t 2], none⟩,
        ⟨(some 103), .bin .lss, [.t 101, .t 102], none⟩])
       (AC.cond (.t 103)
        AC.skip
        (AC.exit 6)))
       (AC.seq (AC.block 7
        (AC.seq (AC.seq (AC.par
         (PT.step 0 ⟨(some 106), .mov, [.t 0], none⟩
         (PT.step 1 ⟨(some 107), .mov, [.t 10], none⟩
         (PT.step 4 ⟨(some 110), .mov, [.t 0], none⟩
         (PT.step 5 ⟨(some 111), .mov, [.t 10], none⟩
         (PT.step 6 ⟨(some 112), .bin .sub, [.t 111, .c (.int .i64 1)], none⟩
         (PT.step 2 ⟨(some 108), .idxp 1, [.t 106, .t 107], none⟩
         (PT.step 3 ⟨(some 109), .load false 1, [.t 108], none⟩
         (PT.step 7 ⟨(some 113), .idxp 1, [.t 110, .t 112], none⟩
         (PT.step 8 ⟨(some 114), .load false 1, [.t 113], none⟩
         (PT.step 9 ⟨(some 115), .call 87, [.t 109, .t 114], none⟩
         (PT.step 10 ⟨(some 116), .un .not, [.t 115], none⟩
         PT.done))))))))))))
        (AC.cond (.t 116)
         (AC.exit 6)
         AC.skip))
        (AC.par
         (PT.step 0 ⟨(some 117), .mov, [.t 0], none⟩
         (PT.step 1 ⟨(some 118), .mov, [.t 10], none⟩
         (PT.step 2 ⟨(some 119), .mov, [.t 0], none⟩
         (PT.step 3 ⟨(some 120), .mov, [.t 10], none⟩
         (PT.step 4 ⟨(some 121), .bin .sub, [.t 120, .c (.int .i64 1)], none⟩
         (PT.step 5 ⟨(some 122), .mov, [.t 0], none⟩
         (PT.step 6 ⟨(some 123), .mov, [.t 10], none⟩
         (PT.step 7 ⟨(some 124), .bin .sub, [.t 123, .c (.int .i64 1)], none⟩
         (PT.step 10 ⟨(some 127), .mov, [.t 0], none⟩
         (PT.step 11 ⟨(some 128), .mov, [.t 10], none⟩
         (PT.step 8 ⟨(some 125), .idxp 1, [.t 122, .t 124], none⟩
         (PT.step 9 ⟨(some 126), .load false 1, [.t 125], none⟩
         (PT.step 12 ⟨(some 129), .idxp 1, [.t 127, .t 128], none⟩
         (PT.step 13 ⟨(some 130), .load false 1, [.t 129], none⟩
         (PT.step 14 ⟨(some 131), .idxp 1, [.t 117, .t 118], none⟩
         (PT.step 15 ⟨none, .store 1, [.t 131, .t 126], none⟩
         (PT.step 16 ⟨(some 132), .idxp 1, [.t 119, .t 121], none⟩
         (PT.step 17 ⟨none, .store 1, [.t 132, .t 130], none⟩
         PT.done)))))))))))))))))))))
       (AC.reg [
        ⟨(some 104), .mov, [.t 10], none⟩,
        ⟨(some 105), .bin .add, [.t 104, .c (.int .i64 1)], none⟩,
        ⟨(some 10), .mov, [.t 105], none⟩]))))))
     AC.skip))))))))
   (AC.reg [
    ⟨(some 15), .mov, [.t 8], none⟩,
    ⟨(some 16), .bin .add, [.t 15, .c (.int .i64 1)], none⟩,
    ⟨(some 8), .mov, [.t 16], none⟩]))))))
 (AC.seq (AC.reg [
  ⟨(some 6), .mov, [.c (.bool false)], none⟩])
 AC.ret))))
def r86 : AC × List RT × Nat := (c86, [.tmp 6], 133)
theorem ok86e : compF Tryz.prog Tryz.f86 ⟨true, false, []⟩ = some r86 := by kernel_rfl
variable {E : Env}
theorem clt50 {a : Nat} : decide ((a : Int) < 50) = decide (a < 50) := by simp; omega
theorem clt5 {a : Nat} : decide ((a : Int) < 5) = decide (a < 5) := by simp; omega
theorem cge2 {a : Nat} : decide ((a : Int) ≥ 2) = decide (a ≥ 2) := by simp; omega
theorem cge1 {a : Nat} : decide ((a : Int) ≥ 1) = decide (a ≥ 1) := by simp; omega
theorem ceq {a b : Nat} : ((a : Int) == (b : Int)) = decide (a = b) := by
  by_cases h : a = b
  · simp [h]
  · simp [h]; omega
theorem shiftDown_size (lt : Int → Int → Bool) : ∀ (j : Nat) (d : Array Int), (shiftDown lt j d).size = d.size
  | 0, d => rfl
  | j + 1, d => by
    rw [shiftDown]
    split
    · rfl
    · rw [shiftDown_size]; simp [swp]
theorem shiftUp_size (lt : Int → Int → Bool) (b : Nat) : ∀ (m j : Nat) (d : Array Int), b - j ≤ m → (shiftUp lt b j d).size = d.size := by
  intro m
  induction m with
  | zero => intro j d h; rw [shiftUp, if_neg (by omega)]
  | succ m ih =>
    intro j d h
    rw [shiftUp]
    split
    · split
      · rfl
      · rw [ih _ _ (by omega)]; simp [swp]
    · rfl
theorem scanSorted_le (lt : Int → Int → Bool) (b : Nat) (d : Array Int) : ∀ (m i : Nat), b - i ≤ m → i ≤ b → i ≤ scanSorted lt d b i ∧ scanSorted lt d b i ≤ b := by
  intro m
  induction m with
  | zero => intro i h hi; rw [scanSorted, if_neg (by simp; omega)]; omega
  | succ m ih =>
    intro i h hi
    rw [scanSorted]
    split
    · rename_i h1
      have := ih (i + 1) (by omega) (by simp at h1; omega)
      omega
    · omega

theorem partialIns_c (hP : E.P = Tryz.prog) (W : AW) (r n a b : Nat) (d : Array Int) (hn : d.size = n) (hab : a < b) (hb : b ≤ n) (hsm : n < 2 ^ 48) :
    ACalls E 86 [.slr r 0 n 1, .int .i64 a, .int .i64 b] (pv W r d) fun X W' => X = .bool (partialInsertionSort ltInt d a b).2 ∧ W' = pv W r (partialInsertionSort ltInt d a b).1 := by
  refine ACalls.of hP Tryz.func86 ok86e (by simp) fun _ _ => ?_
  simp (disch := omega) only [c86, e_seq, e_reg, e_block, e_cons, e_nil, e_plain, evs_nil, evs_cons, ev_t, ev_c, argsA_ap, e_putK, e_putd, e_put, e_then, ↓reduceIte, Nat.reduceEqDiff, List.getElem?_cons_zero, List.getElem?_cons_succ, sem_mov, sem_add, wadd1, e_loop]
  refine ALoop.go (B := awp E _) (fun h => awp_mono _ h) (fun (s : Nat × Nat × Array Int) A1 W1 => A1 0 = some (.slr r 0 n 1) ∧ A1 1 = some (.int .i64 a) ∧ A1 2 = some (.int .i64 b) ∧ A1 7 = some (.int .i64 s.2.1) ∧ A1 8 = some (.int .i64 s.1) ∧
    W1 = pv W r s.2.2 ∧ s.1 ≤ 5 ∧ a + 1 ≤ s.2.1 ∧ s.2.1 ≤ b ∧ s.2.2.size = n ∧ partialIns ltInt a b (5 - s.1) s.2.1 s.2.2 = partialInsertionSort ltInt d a b) (fun s => 5 - s.1) (0, a + 1, d)
    ⟨rfl, rfl, rfl, rfl, rfl, rfl, by simp, Nat.le_refl _, hab, hn, rfl⟩ ?_
  rintro ⟨k, i, d1⟩ A1 W1 ⟨g0, g1, g2, g7, g8, rfl, gk, gi, gb, gs, gt⟩ _
  simp only at g7 g8 gk gi gb gs gt
  by_cases hk : k < 5
  · rw [show 5 - k = (5 - (k + 1)) + 1 by omega, partialIns_succ] at gt
    simp only [e_seq, e_reg, cond_if, e_block, e_skip, e_cons, e_nil, e_plain, evs_nil, evs_cons, ev_t, ev_c, e_putK, e_putd, e_put, e_then, ↓reduceIte, sem_mov, sem_lss, g8, clt5, hk, decide_true]
    refine awp_mono _ (Q := fun e A' W' => e = .exit 2 ∧ A' 0 = some (.slr r 0 n 1) ∧ A' 1 = some (.int .i64 a) ∧ A' 2 = some (.int .i64 b) ∧ A' 7 = some (.int .i64 ((scanSorted ltInt d1 b i : Nat) : Int)) ∧ A' 8 = some (.int .i64 k) ∧ W' = pv W r d1) ?_ ?_
    rotate_left
    · rw [e_loop]
      refine ALoop.go (B := awp E _) (fun h => awp_mono _ h) (fun (s : Nat) A2 W2 => A2 0 = some (.slr r 0 n 1) ∧ A2 1 = some (.int .i64 a) ∧ A2 2 = some (.int .i64 b) ∧ A2 7 = some (.int .i64 s) ∧ A2 8 = some (.int .i64 k) ∧
        W2 = pv W r d1 ∧ i ≤ s ∧ s ≤ b ∧ scanSorted ltInt d1 b s = scanSorted ltInt d1 b i) (fun s => b - s) i
        ⟨by assumption, by assumption, by assumption, by assumption, by assumption, rfl, Nat.le_refl _, gb, rfl⟩ ?_
      rintro s A2 W2 ⟨q0, q1, q2, q7, q8, rfl, qi, qb, qt⟩ _
      rw [scanSorted] at qt
      by_cases h1 : s < b
      · simp (disch := omega) only [e_seq, e_par, e_step, e_plain, guard_if, evs_nil, evs_cons, ev_t, ev_c, e_putK, e_putd, e_put, e_then, ↓reduceIte, Nat.reduceEqDiff, reduceCtorEq, List.map_cons, List.map_nil, frz_int, sem_mov, sem_sub, sem_lss, sem_call, q0, q2, q7, clt, h1, decide_true, wsub1, ix, ld]
        refine (less_c hP _ _ _).mono ?_
        rintro X W' ⟨rfl, rfl⟩
        by_cases h2 : d1[s]! < d1[s - 1]!
        · rw [if_neg (by simp [h1, ltInt, h2])] at qt
          simp (disch := omega) only [cond_if, e_exit, e_done, e_step, e_plain, guard_if, evs_nil, evs_cons, ev_t, ev_c, e_putK, e_putd, e_put, e_then_exit, ↓reduceIte, Nat.reduceEqDiff, reduceCtorEq, Bool.false_eq_true, sem_pick, sem_not, q0, q1, q2, q7, q8, h2, decide_true, Bool.not_true]
          exact ⟨trivial, trivial, trivial, trivial, by rw [← qt], trivial, trivial⟩
        · rw [if_pos (by simp [h1, ltInt, h2])] at qt
          simp (disch := omega) only [e_reg, cond_if, e_block, e_skip, e_done, e_step, e_cons, e_nil, e_plain, guard_if, evs_nil, evs_cons, ev_t, ev_c, e_putK, e_putd, e_put, e_then, e_blk, ↓reduceIte, Nat.reduceEqDiff, reduceCtorEq, sem_mov, sem_pick, sem_add, sem_not, q0, q1, q2, q7, q8, h2, decide_false, Bool.not_false, wadd1]
          exact ⟨s + 1, ⟨trivial, trivial, trivial, rfl, trivial, trivial, by omega, by omega, qt⟩, by omega, Nat.le_refl _⟩
      · rw [if_neg (by simp [h1])] at qt
        simp (disch := omega) only [e_seq, cond_if, e_exit, e_par, e_done, e_step, e_plain, guard_if, evs_nil, evs_cons, ev_t, ev_c, e_putK, e_putd, e_put, e_then, e_then_exit, ↓reduceIte, Nat.reduceEqDiff, reduceCtorEq, Bool.false_eq_true, sem_mov, sem_pick, sem_lss, q0, q1, q2, q7, q8, clt, h1, decide_false]
        exact ⟨trivial, trivial, trivial, trivial, by rw [← qt], trivial, trivial⟩
    rintro e A2 W2 ⟨rfl, q0, q1, q2, q7, q8, rfl⟩
    obtain ⟨ib, ie⟩ := scanSorted_le ltInt b d1 _ i (Nat.le_refl _) gb
    obtain ⟨i2, hi2⟩ : ∃ i2, i2 = scanSorted ltInt d1 b i := ⟨_, rfl⟩
    rw [← hi2] at q7 ib ie gt
    by_cases h3 : i2 = b
    · rw [if_pos h3] at gt
      simp (disch := omega) only [e_seq, e_reg, cond_if, e_ret, e_cons, e_nil, e_plain, evs_nil, evs_cons, ev_t, ev_c, e_putK, e_putd, e_put, e_then, e_then_ret, e_blk_ret, e_blk_exit, retQ_ret, e_res1, ↓reduceIte, Nat.reduceEqDiff, Option.map_some, frz_bool, sem_mov, sem_eql, q2, q7, ceq, h3, decide_true]
      exact ⟨_, rfl, _, _, .weak weak_id, Nat.le_refl _, by rw [← gt], by rw [← gt]⟩
    rw [if_neg h3] at gt
    by_cases h4 : b - a < 50
    · rw [if_pos h4] at gt
      simp (disch := omega) only [e_seq, e_reg, cond_if, e_ret, e_skip, e_cons, e_nil, e_plain, evs_nil, evs_cons, ev_t, ev_c, e_putK, e_putd, e_put, e_then, e_then_ret, e_blk_ret, e_blk_exit, retQ_ret, e_res1, ↓reduceIte, Nat.reduceEqDiff, Option.map_some, Bool.false_eq_true, frz_bool, sem_mov, sem_sub, sem_lss, sem_eql, q1, q2, q7, ceq, h3, decide_false, wsub, clt50, h4, decide_true]
      exact ⟨_, rfl, _, _, .weak weak_id, Nat.le_refl _, by rw [← gt], by rw [← gt]⟩
    rw [if_neg h4] at gt
    have hs2 : (swp d1 i2 (i2 - 1)).size = n := by simp [swp, gs]
    obtain ⟨d3, hd3⟩ : ∃ d3, d3 = fixDown ltInt a i2 (swp d1 i2 (i2 - 1)) := ⟨_, rfl⟩
    rw [← hd3] at gt
    by_cases h5 : i2 - a ≥ 2
    · have hd3' : d3 = shiftDown ltInt (i2 - 1) (swp d1 i2 (i2 - 1)) := by rw [hd3, fixDown, if_pos h5]
      simp (disch := (try simp only [sz_set]) <;> omega) only [e_seq, e_reg, cond_if, e_block, e_skip, e_par, e_done, e_step, e_cons, e_nil, e_plain, evs_nil, evs_cons, ev_t, ev_c, e_putK, e_putd, e_putd0, e_put, e_then, e_blk_exit, ↓reduceIte, Nat.reduceEqDiff, reduceCtorEq, Bool.false_eq_true, sem_mov, sem_sub, sem_lss, sem_geq, sem_eql, q0, q1, q2, q7, ceq, h3, decide_false, wsub, wsub1, clt50, h4, cge2, h5, decide_true, ix, ld, st, sw]
      refine awp_mono _ (Q := fun e A' W' => e = .exit 4 ∧ A' 0 = some (.slr r 0 n 1) ∧ A' 1 = some (.int .i64 a) ∧ A' 2 = some (.int .i64 b) ∧ A' 7 = some (.int .i64 i2) ∧ A' 8 = some (.int .i64 k) ∧ W' = pv W r d3) ?_ ?_
      rotate_left
      · rw [e_loop]
        refine ALoop.go (B := awp E _) (fun h => awp_mono _ h) (fun (s : Nat × Array Int) A5 W5 => A5 0 = some (.slr r 0 n 1) ∧ A5 1 = some (.int .i64 a) ∧ A5 2 = some (.int .i64 b) ∧ A5 7 = some (.int .i64 i2) ∧ A5 8 = some (.int .i64 k) ∧ A5 9 = some (.int .i64 s.1) ∧
          W5 = pv W r s.2 ∧ s.1 < n ∧ s.2.size = n ∧ shiftDown ltInt s.1 s.2 = d3) (fun s => s.1) (i2 - 1, swp d1 i2 (i2 - 1))
          ⟨by simp only [e_put, ↓reduceIte, reduceCtorEq, q0], by simp only [e_put, ↓reduceIte, Nat.reduceEqDiff, q1], by simp only [e_put, ↓reduceIte, Nat.reduceEqDiff, q2], by simp only [e_put, ↓reduceIte, Nat.reduceEqDiff, q7], by simp only [e_put, ↓reduceIte, Nat.reduceEqDiff, q8], rfl, rfl, by simp; omega, hs2, hd3'.symm⟩ ?_
        rintro ⟨j, d4⟩ A5 W5 ⟨w0, w1, w2, w7, w8, w9, rfl, wj, ws, wt⟩ _
        simp only at w9 wj ws wt
        cases j with
        | zero =>
          have k1 : ¬ 0 ≥ 1 := by decide
          simp (disch := omega) only [e_seq, e_reg, cond_if, e_exit, e_cons, e_nil, e_plain, evs_nil, evs_cons, ev_t, ev_c, e_putK, e_putd, e_put, e_then, e_then_exit, ↓reduceIte, Nat.reduceEqDiff, reduceCtorEq, Bool.false_eq_true, sem_mov, sem_geq, w0, w1, w2, w7, w8, w9, cge1, k1, decide_false]
          exact ⟨trivial, trivial, trivial, trivial, trivial, trivial, by rw [← wt]; rfl⟩
        | succ j =>
          have k1 : j + 1 ≥ 1 := by omega
          rw [shiftDown] at wt
          simp (disch := omega) only [e_seq, e_reg, cond_if, e_block, e_skip, e_par, e_step, e_cons, e_nil, e_plain, evs_nil, evs_cons, ev_t, ev_c, e_putK, e_putd, e_put, e_then, ↓reduceIte, Nat.reduceEqDiff, reduceCtorEq, List.map_cons, List.map_nil, frz_int, sem_mov, sem_sub, sem_geq, sem_call, w0, w9, cge1, k1, decide_true, wsub1, Nat.add_sub_cancel, ix, ld]
          refine (less_c hP _ _ _).mono ?_
          rintro X W' ⟨rfl, rfl⟩
          by_cases k2 : d4[j + 1]! < d4[j]!
          · rw [if_neg (by simp [ltInt, k2])] at wt
            simp (disch := (try simp only [sz_set]) <;> omega) only [e_reg, cond_if, e_skip, e_par, e_done, e_step, e_cons, e_nil, e_plain, evs_nil, evs_cons, ev_t, ev_c, e_putK, e_putd, e_putd0, e_put, e_then, e_blk, ↓reduceIte, Nat.reduceEqDiff, reduceCtorEq, Bool.false_eq_true, sem_mov, sem_sub, sem_not, w0, w1, w2, w7, w8, w9, k2, decide_true, Bool.not_true, wsub1, Nat.add_sub_cancel, ix, ld, st, sw]
            exact ⟨(j, swp d4 (j + 1) j), ⟨trivial, trivial, trivial, trivial, trivial, rfl, rfl, by simp; omega, by simp [swp, ws], wt⟩, by simp, Nat.le_refl _⟩
          · rw [if_pos (by simp [ltInt, k2])] at wt
            simp (disch := omega) only [cond_if, e_exit, e_done, e_step, e_plain, evs_nil, evs_cons, ev_t, e_putK, e_putd, e_put, e_then_exit, e_blk_exit, ↓reduceIte, Nat.reduceEqDiff, reduceCtorEq, sem_not, w0, w1, w2, w7, w8, k2, decide_false, Bool.not_false]
            exact ⟨trivial, trivial, trivial, trivial, trivial, trivial, by rw [wt]⟩
      rintro e A3 W3 ⟨rfl, q0, q1, q2, q7, q8, rfl⟩
      have hs3 : d3.size = n := by rw [hd3]; unfold fixDown; split <;> simp [shiftDown_size, swp, gs]
      by_cases h6 : b - i2 ≥ 2
      · simp (disch := (try simp only [sz_set]) <;> omega) only [e_seq, e_reg, cond_if, e_block, e_cons, e_nil, e_plain, evs_nil, evs_cons, ev_t, ev_c, e_putK, e_putd, e_put, e_then, e_blk_exit, ↓reduceIte, Nat.reduceEqDiff, sem_mov, sem_add, sem_sub, sem_geq, q2, q7, wsub, wadd1, cge2, h6, decide_true]
        refine awp_mono _ (Q := fun e A' W' => e = .exit 6 ∧ A' 0 = some (.slr r 0 n 1) ∧ A' 1 = some (.int .i64 a) ∧ A' 2 = some (.int .i64 b) ∧ A' 7 = some (.int .i64 i2) ∧ A' 8 = some (.int .i64 k) ∧ W' = pv W r (shiftUp ltInt b (i2 + 1) d3)) ?_ ?_
        · rintro e A4 W4 ⟨rfl, u0, u1, u2, u7, u8, rfl⟩
          simp (disch := omega) only [e_reg, e_cons, e_nil, e_plain, evs_nil, evs_cons, ev_t, ev_c, e_putK, e_putd, e_put, e_then, e_blk, e_blk_exit, ↓reduceIte, Nat.reduceEqDiff, reduceCtorEq, sem_mov, sem_add, u0, u1, u2, u7, u8, wadd1]
          refine ⟨(k + 1, i2, shiftUp ltInt b (i2 + 1) d3), ⟨trivial, trivial, trivial, rfl, rfl, rfl, by simp; omega, by simp; omega, ie, by rw [shiftUp_size _ _ _ _ _ (Nat.le_refl _), hs3], ?_⟩, by simp; omega, Nat.le_refl _⟩
          rw [← gt, fixUp, if_pos h6]
        · rw [e_loop]
          refine ALoop.go (B := awp E _) (fun h => awp_mono _ h) (fun (s : Nat × Array Int) A5 W5 => A5 0 = some (.slr r 0 n 1) ∧ A5 1 = some (.int .i64 a) ∧ A5 2 = some (.int .i64 b) ∧ A5 7 = some (.int .i64 i2) ∧ A5 8 = some (.int .i64 k) ∧ A5 10 = some (.int .i64 s.1) ∧
            W5 = pv W r s.2 ∧ 1 ≤ s.1 ∧ s.2.size = n ∧ shiftUp ltInt b s.1 s.2 = shiftUp ltInt b (i2 + 1) d3) (fun s => b - s.1) (i2 + 1, d3)
            ⟨by simp only [e_put, ↓reduceIte, reduceCtorEq, q0], by simp only [e_put, ↓reduceIte, Nat.reduceEqDiff, q1], by simp only [e_put, ↓reduceIte, Nat.reduceEqDiff, q2], by simp only [e_put, ↓reduceIte, Nat.reduceEqDiff, q7], by simp only [e_put, ↓reduceIte, Nat.reduceEqDiff, q8], rfl, rfl, by simp, hs3, rfl⟩ ?_
          rintro ⟨j, d4⟩ A5 W5 ⟨w0, w1, w2, w7, w8, w10, rfl, wj, ws, wt⟩ _
          simp only at w10 wj ws wt
          rw [shiftUp] at wt
          by_cases k1 : j < b
          · rw [if_pos k1] at wt
            simp (disch := omega) only [e_seq, e_reg, cond_if, e_block, e_skip, e_par, e_step, e_cons, e_nil, e_plain, evs_nil, evs_cons, ev_t, ev_c, e_putK, e_putd, e_put, e_then, ↓reduceIte, Nat.reduceEqDiff, reduceCtorEq, List.map_cons, List.map_nil, frz_int, sem_mov, sem_sub, sem_lss, sem_call, w0, w2, w10, clt, k1, decide_true, wsub1, ix, ld]
            refine (less_c hP _ _ _).mono ?_
            rintro X W' ⟨rfl, rfl⟩
            by_cases k2 : d4[j]! < d4[j - 1]!
            · rw [if_neg (by simp [ltInt, k2])] at wt
              simp (disch := (try simp only [sz_set]) <;> omega) only [e_reg, cond_if, e_skip, e_par, e_done, e_step, e_cons, e_nil, e_plain, evs_nil, evs_cons, ev_t, ev_c, e_putK, e_putd, e_putd0, e_put, e_then, e_blk, ↓reduceIte, Nat.reduceEqDiff, reduceCtorEq, Bool.false_eq_true, sem_mov, sem_add, sem_sub, sem_not, w0, w1, w2, w7, w8, w10, k2, decide_true, Bool.not_true, wadd1, wsub1, ix, ld, st, sw]
              exact ⟨(j + 1, swp d4 j (j - 1)), ⟨trivial, trivial, trivial, trivial, trivial, rfl, rfl, by simp, by simp [swp, ws], wt⟩, by simp; omega, Nat.le_refl _⟩
            · rw [if_pos (by simp [ltInt, k2])] at wt
              simp (disch := omega) only [cond_if, e_exit, e_done, e_step, e_plain, evs_nil, evs_cons, ev_t, e_putK, e_putd, e_put, e_then_exit, e_blk_exit, ↓reduceIte, Nat.reduceEqDiff, reduceCtorEq, sem_not, w0, w1, w2, w7, w8, k2, decide_false, Bool.not_false]
              exact ⟨trivial, trivial, trivial, trivial, trivial, trivial, by rw [wt]⟩
          · rw [if_neg k1] at wt
            simp (disch := omega) only [e_seq, e_reg, cond_if, e_exit, e_cons, e_nil, e_plain, evs_nil, evs_cons, ev_t, e_putK, e_putd, e_put, e_then, e_then_exit, ↓reduceIte, Nat.reduceEqDiff, reduceCtorEq, Bool.false_eq_true, sem_mov, sem_lss, w0, w1, w2, w7, w8, w10, clt, k1, decide_false]
            exact ⟨trivial, trivial, trivial, trivial, trivial, trivial, by rw [wt]⟩
      · simp (disch := (try simp only [sz_set]) <;> omega) only [e_seq, e_reg, cond_if, e_skip, e_cons, e_nil, e_plain, evs_nil, evs_cons, ev_t, ev_c, e_putK, e_putd, e_put, e_then, e_blk, e_blk_exit, ↓reduceIte, Nat.reduceEqDiff, reduceCtorEq, Bool.false_eq_true, sem_mov, sem_add, sem_sub, sem_geq, q0, q1, q2, q7, q8, decide_false, wsub, wadd1, cge2, h6]
        refine ⟨(k + 1, i2, d3), ⟨trivial, trivial, trivial, rfl, rfl, rfl, by simp; omega, by simp; omega, ie, hs3, ?_⟩, by simp; omega, Nat.le_refl _⟩
        rw [← gt, fixUp, if_neg h6]
    · have hd3' : d3 = swp d1 i2 (i2 - 1) := by rw [hd3, fixDown, if_neg h5]
      have hs3 : d3.size = n := by rw [hd3]; unfold fixDown; split <;> simp [shiftDown_size, swp, gs]
      by_cases h6 : b - i2 ≥ 2
      · simp (disch := (try simp only [sz_set]) <;> omega) only [e_seq, e_reg, cond_if, e_block, e_skip, e_par, e_done, e_step, e_cons, e_nil, e_plain, evs_nil, evs_cons, ev_t, ev_c, e_putK, e_putd, e_putd0, e_put, e_then, e_blk_exit, ↓reduceIte, Nat.reduceEqDiff, reduceCtorEq, Bool.false_eq_true, sem_mov, sem_add, sem_sub, sem_lss, sem_geq, sem_eql, q0, q1, q2, q7, ceq, h3, decide_false, wsub, wsub1, wadd1, clt50, h4, cge2, h5, h6, decide_true, ix, ld, st, sw, ← hd3']
        refine awp_mono _ (Q := fun e A' W' => e = .exit 6 ∧ A' 0 = some (.slr r 0 n 1) ∧ A' 1 = some (.int .i64 a) ∧ A' 2 = some (.int .i64 b) ∧ A' 7 = some (.int .i64 i2) ∧ A' 8 = some (.int .i64 k) ∧ W' = pv W r (shiftUp ltInt b (i2 + 1) d3)) ?_ ?_
        · rintro e A4 W4 ⟨rfl, u0, u1, u2, u7, u8, rfl⟩
          simp (disch := omega) only [e_reg, e_cons, e_nil, e_plain, evs_nil, evs_cons, ev_t, ev_c, e_putK, e_putd, e_put, e_then, e_blk, e_blk_exit, ↓reduceIte, Nat.reduceEqDiff, reduceCtorEq, sem_mov, sem_add, u0, u1, u2, u7, u8, wadd1]
          refine ⟨(k + 1, i2, shiftUp ltInt b (i2 + 1) d3), ⟨trivial, trivial, trivial, rfl, rfl, rfl, by simp; omega, by simp; omega, ie, by rw [shiftUp_size _ _ _ _ _ (Nat.le_refl _), hs3], ?_⟩, by simp; omega, Nat.le_refl _⟩
          rw [← gt, fixUp, if_pos h6]
        · rw [e_loop]
          refine ALoop.go (B := awp E _) (fun h => awp_mono _ h) (fun (s : Nat × Array Int) A5 W5 => A5 0 = some (.slr r 0 n 1) ∧ A5 1 = some (.int .i64 a) ∧ A5 2 = some (.int .i64 b) ∧ A5 7 = some (.int .i64 i2) ∧ A5 8 = some (.int .i64 k) ∧ A5 10 = some (.int .i64 s.1) ∧
            W5 = pv W r s.2 ∧ 1 ≤ s.1 ∧ s.2.size = n ∧ shiftUp ltInt b s.1 s.2 = shiftUp ltInt b (i2 + 1) d3) (fun s => b - s.1) (i2 + 1, d3)
            ⟨by simp only [e_put, ↓reduceIte, reduceCtorEq, q0], by simp only [e_put, ↓reduceIte, Nat.reduceEqDiff, q1], by simp only [e_put, ↓reduceIte, Nat.reduceEqDiff, q2], by simp only [e_put, ↓reduceIte, Nat.reduceEqDiff, q7], by simp only [e_put, ↓reduceIte, Nat.reduceEqDiff, q8], rfl, rfl, by simp, hs3, rfl⟩ ?_
          rintro ⟨j, d4⟩ A5 W5 ⟨w0, w1, w2, w7, w8, w10, rfl, wj, ws, wt⟩ _
          simp only at w10 wj ws wt
          rw [shiftUp] at wt
          by_cases k1 : j < b
          · rw [if_pos k1] at wt
            simp (disch := omega) only [e_seq, e_reg, cond_if, e_block, e_skip, e_par, e_step, e_cons, e_nil, e_plain, evs_nil, evs_cons, ev_t, ev_c, e_putK, e_putd, e_put, e_then, ↓reduceIte, Nat.reduceEqDiff, reduceCtorEq, List.map_cons, List.map_nil, frz_int, sem_mov, sem_sub, sem_lss, sem_call, w0, w2, w10, clt, k1, decide_true, wsub1, ix, ld]
            refine (less_c hP _ _ _).mono ?_
            rintro X W' ⟨rfl, rfl⟩
            by_cases k2 : d4[j]! < d4[j - 1]!
            · rw [if_neg (by simp [ltInt, k2])] at wt
              simp (disch := (try simp only [sz_set]) <;> omega) only [e_reg, cond_if, e_skip, e_par, e_done, e_step, e_cons, e_nil, e_plain, evs_nil, evs_cons, ev_t, ev_c, e_putK, e_putd, e_putd0, e_put, e_then, e_blk, ↓reduceIte, Nat.reduceEqDiff, reduceCtorEq, Bool.false_eq_true, sem_mov, sem_add, sem_sub, sem_not, w0, w1, w2, w7, w8, w10, k2, decide_true, Bool.not_true, wadd1, wsub1, ix, ld, st, sw]
              exact ⟨(j + 1, swp d4 j (j - 1)), ⟨trivial, trivial, trivial, trivial, trivial, rfl, rfl, by simp, by simp [swp, ws], wt⟩, by simp; omega, Nat.le_refl _⟩
            · rw [if_pos (by simp [ltInt, k2])] at wt
              simp (disch := omega) only [cond_if, e_exit, e_done, e_step, e_plain, evs_nil, evs_cons, ev_t, e_putK, e_putd, e_put, e_then_exit, e_blk_exit, ↓reduceIte, Nat.reduceEqDiff, reduceCtorEq, sem_not, w0, w1, w2, w7, w8, k2, decide_false, Bool.not_false]
              exact ⟨trivial, trivial, trivial, trivial, trivial, trivial, by rw [wt]⟩
          · rw [if_neg k1] at wt
            simp (disch := omega) only [e_seq, e_reg, cond_if, e_exit, e_cons, e_nil, e_plain, evs_nil, evs_cons, ev_t, e_putK, e_putd, e_put, e_then, e_then_exit, ↓reduceIte, Nat.reduceEqDiff, reduceCtorEq, Bool.false_eq_true, sem_mov, sem_lss, w0, w1, w2, w7, w8, w10, clt, k1, decide_false]
            exact ⟨trivial, trivial, trivial, trivial, trivial, trivial, by rw [wt]⟩
      · simp (disch := (try simp only [sz_set]) <;> omega) only [e_seq, e_reg, cond_if, e_skip, e_par, e_done, e_step, e_cons, e_nil, e_plain, evs_nil, evs_cons, ev_t, ev_c, e_putK, e_putd, e_putd0, e_put, e_then, e_blk, e_blk_exit, ↓reduceIte, Nat.reduceEqDiff, reduceCtorEq, Bool.false_eq_true, sem_mov, sem_add, sem_sub, sem_lss, sem_geq, sem_eql, q0, q1, q2, q7, q8, ceq, h3, decide_false, wsub, wsub1, wadd1, clt50, h4, cge2, h5, h6, ix, ld, st, sw, ← hd3']
        refine ⟨(k + 1, i2, d3), ⟨trivial, trivial, trivial, rfl, rfl, rfl, by simp; omega, by simp; omega, ie, hs3, ?_⟩, by simp; omega, Nat.le_refl _⟩
        rw [← gt, fixUp, if_neg h6]
  · have : 5 - k = 0 := by omega
    rw [this] at gt
    simp only [e_seq, e_reg, cond_if, e_exit, e_ret, e_cons, e_nil, e_plain, evs_nil, evs_cons, ev_t, ev_c, e_putK, e_putd, e_put, e_then, e_then_exit, e_blk_exit, retQ_ret, e_res1, ↓reduceIte, Option.map_some, Bool.false_eq_true, frz_bool, sem_mov, sem_lss, g8, clt5, hk, decide_false]
    exact ⟨_, rfl, _, _, .weak weak_id, Nat.le_refl _, by rw [← gt]; rfl, by rw [← gt]; rfl⟩
end Go.AL.S
set_option maxRecDepth 100000
namespace Go.AL.S
open Go Go.AL Go.Proofs Go.Sort
/- math/bits.Len64 -/
def c91 : AC := (AC.seq (AC.reg [
  ⟨(some 2), .mov, [.c (.int .i64 0)], none⟩])
 (AC.seq (AC.seq (AC.reg [
  ⟨(some 3), .mov, [.t 0], none⟩,
  ⟨(some 4), .bin .geq, [.t 3, .c (.int .u64 4294967296)], none⟩])
 (AC.cond (.t 4)
  (AC.seq (AC.reg [
   ⟨(some 5), .mov, [.t 0], none⟩,
   ⟨(some 6), .bin .shr, [.t 5, .c (.int .u64 32)], none⟩,
   ⟨(some 0), .mov, [.t 6], none⟩])
  (AC.reg [
   ⟨(some 2), .mov, [.c (.int .i64 32)], none⟩]))
  AC.skip))
 (AC.seq (AC.seq (AC.reg [
  ⟨(some 7), .mov, [.t 0], none⟩,
  ⟨(some 8), .bin .geq, [.t 7, .c (.int .u64 65536)], none⟩])
 (AC.cond (.t 8)
  (AC.seq (AC.reg [
   ⟨(some 9), .mov, [.t 0], none⟩,
   ⟨(some 10), .bin .shr, [.t 9, .c (.int .u64 16)], none⟩,
   ⟨(some 0), .mov, [.t 10], none⟩])
  (AC.reg [
   ⟨(some 11), .mov, [.t 2], none⟩,
   ⟨(some 12), .bin .add, [.t 11, .c (.int .i64 16)], none⟩,
   ⟨(some 2), .mov, [.t 12], none⟩]))
  AC.skip))
 (AC.seq (AC.seq (AC.reg [
  ⟨(some 13), .mov, [.t 0], none⟩,
  ⟨(some 14), .bin .geq, [.t 13, .c (.int .u64 256)], none⟩])
 (AC.cond (.t 14)
  (AC.seq (AC.reg [
   ⟨(some 15), .mov, [.t 0], none⟩,
   ⟨(some 16), .bin .shr, [.t 15, .c (.int .u64 8)], none⟩,
   ⟨(some 0), .mov, [.t 16], none⟩])
  (AC.reg [
   ⟨(some 17), .mov, [.t 2], none⟩,
   ⟨(some 18), .bin .add, [.t 17, .c (.int .i64 8)], none⟩,
   ⟨(some 2), .mov, [.t 18], none⟩]))
  AC.skip))
 (AC.seq (AC.reg [
  ⟨(some 19), .mov, [.t 2], none⟩,
  ⟨(some 20), .mov, [.t 0], none⟩,
  ⟨(some 21), .conv .u8, [.t 20], none⟩,
  ⟨(some 22), .idxs, [.c (.str ⟨#[0, 1, 2, 2, 3, 3, 3, 3, 4, 4, 4, 4, 4, 4, 4, 4, 5, 5, 5, 5, 5, 5, 5, 5, 5, 5, 5, 5, 5, 5, 5, 5, 6, 6, 6, 6, 6, 6, 6, 6, 6, 6, 6, 6, 6, 6, 6, 6, 6, 6, 6, 6, 6, 6, 6, 6, 6, 6, 6, 6, 6, 6, 6, 6, 7, 7, 7, 7, 7, 7, 7, 7, 7, 7, 7, 7, 7, 7, 7, 7, 7, 7, 7, 7, 7, 7, 7, 7, 7, 7, 7, 7, 7, 7, 7, 7, 7, 7, 7, 7, 7, 7, 7, 7, 7, 7, 7, 7, 7, 7, 7, 7, 7, 7, 7, 7, 7, 7, 7, 7, 7, 7, 7, 7, 7, 7, 7, 7, 8, 8, 8, 8, 8, 8, 8, 8, 8, 8, 8, 8, 8, 8, 8, 8, 8, 8, 8, 8, 8, 8, 8, 8, 8, 8, 8, 8, 8, 8, 8, 8, 8, 8, 8, 8, 8, 8, 8, 8, 8, 8, 8, 8, 8, 8, 8, 8, 8, 8, 8, 8, 8, 8, 8, 8, 8, 8, 8, 8, 8, 8, 8, 8, 8, 8, 8, 8, 8, 8, 8, 8, 8, 8, 8, 8, 8, 8, 8, 8, 8, 8, 8, 8, 8, 8, 8, 8, 8, 8, 8, 8, 8, 8, 8, 8, 8, 8, 8, 8, 8, 8, 8, 8, 8, 8, 8, 8, 8, 8, 8, 8, 8, 8, 8, 8, 8, 8, 8, 8, 8, 8, 8, 8, 8, 8, 8, 8]⟩), .t 21], none⟩,
  ⟨(some 23), .conv .i64, [.t 22], none⟩,
  ⟨(some 24), .bin .add, [.t 19, .t 23], none⟩,
  ⟨(some 2), .mov, [.t 24], none⟩])
 AC.ret)))))
def r91 : AC × List RT × Nat := (c91, [.tmp 2], 25)
theorem ok91e : compF Tryz.prog Tryz.f91 ⟨true, false, []⟩ = some r91 := by kernel_rfl
/- math/bits.Len -/
def c55 : AC := (AC.seq (AC.reg [
  ⟨(some 2), .mov, [.c (.int .i64 0)], none⟩])
 (AC.seq (AC.cond (.c (.bool false))
  (AC.seq (AC.reg [
   ⟨(some 3), .mov, [.t 0], none⟩,
   ⟨(some 4), .conv .u32, [.t 3], none⟩,
   ⟨(some 5), .call 90, [.t 4], none⟩,
   ⟨(some 2), .mov, [.t 5], none⟩])
  AC.ret)
  AC.skip)
 (AC.seq (AC.reg [
  ⟨(some 6), .mov, [.t 0], none⟩,
  ⟨(some 7), .call 91, [.t 6], none⟩,
  ⟨(some 2), .mov, [.t 7], none⟩])
 AC.ret)))
def r55 : AC × List RT × Nat := (c55, [.tmp 2], 8)
theorem ok55e : compF Tryz.prog Tryz.f55 ⟨true, false, []⟩ = some r55 := by kernel_rfl
/- slices.nextPowerOfTwo -/
def c115 : AC := (AC.seq (AC.reg [
  ⟨(some 2), .mov, [.c (.int .u64 0)], none⟩])
 (AC.seq (AC.reg [
  ⟨(some 3), .mov, [.t 0], none⟩,
  ⟨(some 4), .conv .u64, [.t 3], none⟩,
  ⟨(some 5), .call 55, [.t 4], none⟩,
  ⟨(some 6), .bin .shl, [.c (.int .u64 1), .t 5], none⟩,
  ⟨(some 2), .mov, [.t 6], none⟩])
 AC.ret))
def r115 : AC × List RT × Nat := (c115, [.tmp 2], 7)
theorem ok115e : compF Tryz.prog Tryz.f115 ⟨true, false, []⟩ = some r115 := by kernel_rfl
/- (*slices.xorshift).Next -/
def c116 : AC := (AC.seq (AC.reg [
  ⟨(some 2), .mov, [.c (.int .u64 0)], none⟩])
 (AC.seq (AC.par
  (PT.step 0 ⟨(some 3), .mov, [.t 0], none⟩
  (PT.step 1 ⟨(some 4), .nilck, [.t 3], none⟩
  (PT.step 3 ⟨(some 6), .mov, [.t 0], none⟩
  (PT.step 4 ⟨(some 7), .nilck, [.t 6], none⟩
  (PT.step 2 ⟨(some 5), .load false 1, [.t 4], none⟩
  (PT.step 5 ⟨(some 8), .load false 1, [.t 7], none⟩
  (PT.step 6 ⟨(some 9), .bin .shl, [.t 8, .c (.int .u64 13)], none⟩
  (PT.step 7 ⟨(some 10), .bin .xor, [.t 5, .t 9], none⟩
  (PT.step 8 ⟨(some 11), .nilck, [.t 3], none⟩
  (PT.step 9 ⟨none, .store 1, [.t 11, .t 10], none⟩
  PT.done)))))))))))
 (AC.seq (AC.par
  (PT.step 0 ⟨(some 12), .mov, [.t 0], none⟩
  (PT.step 1 ⟨(some 13), .nilck, [.t 12], none⟩
  (PT.step 3 ⟨(some 15), .mov, [.t 0], none⟩
  (PT.step 4 ⟨(some 16), .nilck, [.t 15], none⟩
  (PT.step 2 ⟨(some 14), .load false 1, [.t 13], none⟩
  (PT.step 5 ⟨(some 17), .load false 1, [.t 16], none⟩
  (PT.step 6 ⟨(some 18), .bin .shr, [.t 17, .c (.int .u64 7)], none⟩
  (PT.step 7 ⟨(some 19), .bin .xor, [.t 14, .t 18], none⟩
  (PT.step 8 ⟨(some 20), .nilck, [.t 12], none⟩
  (PT.step 9 ⟨none, .store 1, [.t 20, .t 19], none⟩
  PT.done)))))))))))
 (AC.seq (AC.par
  (PT.step 0 ⟨(some 21), .mov, [.t 0], none⟩
  (PT.step 1 ⟨(some 22), .nilck, [.t 21], none⟩
  (PT.step 3 ⟨(some 24), .mov, [.t 0], none⟩
  (PT.step 4 ⟨(some 25), .nilck, [.t 24], none⟩
  (PT.step 2 ⟨(some 23), .load false 1, [.t 22], none⟩
  (PT.step 5 ⟨(some 26), .load false 1, [.t 25], none⟩
  (PT.step 6 ⟨(some 27), .bin .shl, [.t 26, .c (.int .u64 17)], none⟩
  (PT.step 7 ⟨(some 28), .bin .xor, [.t 23, .t 27], none⟩
  (PT.step 8 ⟨(some 29), .nilck, [.t 21], none⟩
  (PT.step 9 ⟨none, .store 1, [.t 29, .t 28], none⟩
  PT.done)))))))))))
 (AC.seq (AC.reg [
  ⟨(some 30), .mov, [.t 0], none⟩,
  ⟨(some 31), .nilck, [.t 30], none⟩,
  ⟨(some 32), .load false 1, [.t 31], none⟩,
  ⟨(some 2), .mov, [.t 32], none⟩])
 AC.ret)))))
def r116 : AC × List RT × Nat := (c116, [.tmp 2], 33)
theorem ok116e : compF Tryz.prog Tryz.f116 ⟨true, false, []⟩ = some r116 := by kernel_rfl
/- slices.breakPatternsOrdered[uint16] -/
def c83 : AC := (AC.seq (AC.reg [
  ⟨(some 11), .mov, [.t 2], none⟩,
  ⟨(some 12), .mov, [.t 1], none⟩,
  ⟨(some 13), .bin .sub, [.t 11, .t 12], none⟩,
  ⟨(some 6), .mov, [.t 13], none⟩])
 (AC.seq (AC.reg [
  ⟨(some 14), .mov, [.t 6], none⟩,
  ⟨(some 15), .bin .geq, [.t 14, .c (.int .i64 8)], none⟩])
 (AC.cond (.t 15)
  (AC.seq (AC.reg [
   ⟨(some 16), .mov, [.t 6], none⟩,
   ⟨(some 17), .conv .u64, [.t 16], none⟩,
   ⟨(some 7), .alloc [.int .u64 0], [], none⟩,
   ⟨none, .store 1, [.t 7, .t 17], none⟩])
  (AC.seq (AC.reg [
   ⟨(some 18), .mov, [.t 6], none⟩,
   ⟨(some 19), .call 115, [.t 18], none⟩,
   ⟨(some 8), .mov, [.t 19], none⟩])
  (AC.seq (AC.reg [
   ⟨(some 20), .mov, [.t 1], none⟩,
   ⟨(some 21), .mov, [.t 6], none⟩,
   ⟨(some 22), .bin .quo, [.t 21, .c (.int .i64 4)], none⟩,
   ⟨(some 23), .bin .mul, [.t 22, .c (.int .i64 2)], none⟩,
   ⟨(some 24), .bin .add, [.t 20, .t 23], none⟩,
   ⟨(some 25), .bin .sub, [.t 24, .c (.int .i64 1)], none⟩,
   ⟨(some 9), .mov, [.t 25], none⟩])
  (AC.block 0
   (AC.loop
    (AC.seq (AC.seq (AC.reg [
     ⟨(some 26), .mov, [.t 9], none⟩,
     ⟨(some 27), .mov, [.t 1], none⟩,
     ⟨(some 28), .mov, [.t 6], none⟩,
     ⟨(some 29), .bin .quo, [.t 28, .c (.int .i64 4)], none⟩,
     ⟨(some 30), .bin .mul, [.t 29, .c (.int .i64 2)], none⟩,
     ⟨(some 31), .bin .add, [.t 27, .t 30], none⟩,
     ⟨(some 32), .bin .add, [.t 31, .c (.int .i64 1)], none⟩,
     ⟨(some 33), .bin .leq, [.t 26, .t 32], none⟩])
    (AC.cond (.t 33)
     AC.skip
     (AC.exit 0)))
    (AC.seq (AC.block 1
     (AC.seq (AC.reg [
      ⟨(some 36), .call 116, [.t 7], none⟩,
      ⟨(some 37), .mov, [.t 8], none⟩,
      ⟨(some 38), .bin .sub, [.t 37, .c (.int .u64 1)], none⟩,
      ⟨(some 39), .bin .and, [.t 36, .t 38], none⟩,
      ⟨(some 40), .conv .i64, [.t 39], none⟩,
      ⟨(some 10), .mov, [.t 40], none⟩])
     (AC.seq (AC.seq (AC.reg [
      ⟨(some 41), .mov, [.t 10], none⟩,
      ⟨(some 42), .mov, [.t 6], none⟩,
      ⟨(some 43), .bin .geq, [.t 41, .t 42], none⟩])
     (AC.cond (.t 43)
      (AC.reg [
       ⟨(some 44), .mov, [.t 10], none⟩,
       ⟨(some 45), .mov, [.t 6], none⟩,
       ⟨(some 46), .bin .sub, [.t 44, .t 45], none⟩,
       ⟨(some 10), .mov, [.t 46], none⟩])
      AC.skip))
     (AC.par
      (PT.step 0 ⟨(some 47), .mov, [.t 0], none⟩
      (PT.step 1 ⟨(some 48), .mov, [.t 9], none⟩
      (PT.step 2 ⟨(some 49), .mov, [.t 0], none⟩
      (PT.step 3 ⟨(some 50), .mov, [.t 1], none⟩
      (PT.step 4 ⟨(some 51), .mov, [.t 10], none⟩
      (PT.step 5 ⟨(some 52), .bin .add, [.t 50, .t 51], none⟩
      (PT.step 6 ⟨(some 53), .mov, [.t 0], none⟩
      (PT.step 7 ⟨(some 54), .mov, [.t 1], none⟩
      (PT.step 8 ⟨(some 55), .mov, [.t 10], none⟩
      (PT.step 9 ⟨(some 56), .bin .add, [.t 54, .t 55], none⟩
      (PT.step 12 ⟨(some 59), .mov, [.t 0], none⟩
      (PT.step 13 ⟨(some 60), .mov, [.t 9], none⟩
      (PT.step 10 ⟨(some 57), .idxp 1, [.t 53, .t 56], none⟩
      (PT.step 11 ⟨(some 58), .load false 1, [.t 57], none⟩
      (PT.step 14 ⟨(some 61), .idxp 1, [.t 59, .t 60], none⟩
      (PT.step 15 ⟨(some 62), .load false 1, [.t 61], none⟩
      (PT.step 16 ⟨(some 63), .idxp 1, [.t 47, .t 48], none⟩
      (PT.step 17 ⟨none, .store 1, [.t 63, .t 58], none⟩
      (PT.step 18 ⟨(some 64), .idxp 1, [.t 49, .t 52], none⟩
      (PT.step 19 ⟨none, .store 1, [.t 64, .t 62], none⟩
      PT.done))))))))))))))))))))))))
    (AC.reg [
     ⟨(some 34), .mov, [.t 9], none⟩,
     ⟨(some 35), .bin .add, [.t 34, .c (.int .i64 1)], none⟩,
     ⟨(some 9), .mov, [.t 35], none⟩]))))))))
  AC.skip)))
def r83 : AC × List RT × Nat := (c83, [], 65)
theorem ok83e : compF Tryz.prog Tryz.f83 ⟨true, false, []⟩ = some r83 := by kernel_rfl
variable {E : Env}
/-! numbers of 64 bits, without a sign -/
theorem un {n : Nat} (h : n < 2 ^ 64) : IntKind.u64.wrap (n : Int) = n := by
  have h1 : (n : Int) % 18446744073709551616 = n := Int.emod_eq_of_lt (by omega) (by omega)
  simp [IntKind.wrap, IntKind.bits, IntKind.signed, h1]
theorem u8n {n : Nat} (h : n < 256) : IntKind.u8.wrap (n : Int) = n := by
  have h1 : (n : Int) % 256 = n := Int.emod_eq_of_lt (by omega) (by omega)
  simp [IntKind.wrap, IntKind.bits, IntKind.signed, h1]
theorem shrN {W : AW} {K : V → AW → Prop} {n : Nat} (s : Nat) (hs : s ≤ 64) : sem E (.bin .shr) [.int .u64 (n : Int), .int .u64 (s : Int)] W K = K (.int .u64 ((n / 2 ^ s : Nat) : Int)) W := by
  have h0 : (0 : Int) ≤ (s : Int) := by omega
  have h1 : binI .shr .u64 n s = some (.int .u64 ((n / 2 ^ s : Nat) : Int)) := by
    show shI .shr .u64 n s = _
    simp only [shI, h0, ↓reduceIte, Int.toNat_natCast, IntKind.bits, Nat.min_eq_left hs]
    congr 2
    rw [show ((2 : Int) ^ s) = ((2 ^ s : Nat) : Int) by simp]
    exact (Int.ofNat_fdiv n (2 ^ s)).symm
  simp only [sem, rsem, tsem, ↓reduceIte, h1]
theorem bitsLen_up {x : Nat} (k : Nat) (h : 2 ^ k ≤ x) : bitsLen x = k + bitsLen (x / 2 ^ k) := by
  have hp : 0 < 2 ^ k := Nat.two_pow_pos k
  apply Nat.le_antisymm
  · rw [bitsLen_le_iff, Nat.pow_add]
    have := lt_two_pow_bitsLen (x / 2 ^ k)
    exact Nat.lt_of_lt_of_eq ((Nat.div_lt_iff_lt_mul hp).1 this) (Nat.mul_comm _ _)
  · have hk : k < bitsLen x := by
      rcases Nat.lt_or_ge k (bitsLen x) with h1 | h1
      · exact h1
      · have := (bitsLen_le_iff x k).1 h1
        omega
    have : bitsLen (x / 2 ^ k) ≤ bitsLen x - k := by
      rw [bitsLen_le_iff, Nat.div_lt_iff_lt_mul hp, ← Nat.pow_add, show bitsLen x - k + k = bitsLen x by omega]
      exact lt_two_pow_bitsLen x
    omega
def lentab : ByteArray := ⟨#[0, 1, 2, 2, 3, 3, 3, 3, 4, 4, 4, 4, 4, 4, 4, 4, 5, 5, 5, 5, 5, 5, 5, 5, 5, 5, 5, 5, 5, 5, 5, 5, 6, 6, 6, 6, 6, 6, 6, 6, 6, 6, 6, 6, 6, 6, 6, 6, 6, 6, 6, 6, 6, 6, 6, 6, 6, 6, 6, 6, 6, 6, 6, 6, 7, 7, 7, 7, 7, 7, 7, 7, 7, 7, 7, 7, 7, 7, 7, 7, 7, 7, 7, 7, 7, 7, 7, 7, 7, 7, 7, 7, 7, 7, 7, 7, 7, 7, 7, 7, 7, 7, 7, 7, 7, 7, 7, 7, 7, 7, 7, 7, 7, 7, 7, 7, 7, 7, 7, 7, 7, 7, 7, 7, 7, 7, 7, 7, 8, 8, 8, 8, 8, 8, 8, 8, 8, 8, 8, 8, 8, 8, 8, 8, 8, 8, 8, 8, 8, 8, 8, 8, 8, 8, 8, 8, 8, 8, 8, 8, 8, 8, 8, 8, 8, 8, 8, 8, 8, 8, 8, 8, 8, 8, 8, 8, 8, 8, 8, 8, 8, 8, 8, 8, 8, 8, 8, 8, 8, 8, 8, 8, 8, 8, 8, 8, 8, 8, 8, 8, 8, 8, 8, 8, 8, 8, 8, 8, 8, 8, 8, 8, 8, 8, 8, 8, 8, 8, 8, 8, 8, 8, 8, 8, 8, 8, 8, 8, 8, 8, 8, 8, 8, 8, 8, 8, 8, 8, 8, 8, 8, 8, 8, 8, 8, 8, 8, 8, 8, 8, 8, 8, 8, 8, 8, 8]⟩
theorem lentab_all : (List.range 256).all (fun x => match lentab[x]? with
    | some b => b.toNat == bitsLen x
    | none => false) = true := by decide +kernel
theorem lentab_at {x : Nat} (h : x < 256) : ∃ b, lentab[x]? = some b ∧ b.toNat = bitsLen x := by
  have := List.all_eq_true.1 lentab_all x (by simpa using h)
  cases hb : lentab[x]? with
  | none => simp [hb] at this
  | some b => exact ⟨b, rfl, by simpa [hb] using this⟩
theorem sem_lentab {W : AW} {K : V → AW → Prop} {n : Nat} (h : n < 256) : sem E .idxs [.str lentab, .int .u8 (n : Int)] W K = K (.int .u8 ((bitsLen n : Nat) : Int)) W := by
  obtain ⟨b, h1, h2⟩ := lentab_at h
  have h0 : (0 : Int) ≤ (n : Int) := by omega
  simp only [sem, rsem, tsem, h0, ↓reduceIte, Int.toNat_natCast, h1, Option.map_some, h2]
theorem uge {n : Nat} {c : Nat} : decide ((n : Int) ≥ (c : Int)) = decide (n ≥ c) := by simp
theorem ge32 {n : Nat} (h : n < 4294967296) : decide ((n : Int) ≥ 4294967296) = false := by simp; omega
theorem ge16 {n : Nat} : decide ((n : Int) ≥ 65536) = decide (n ≥ 65536) := by simp; omega
theorem ge8 {n : Nat} : decide ((n : Int) ≥ 256) = decide (n ≥ 256) := by simp; omega
theorem shr16 {W : AW} {K : V → AW → Prop} {n : Nat} : sem E (.bin .shr) [.int .u64 (n : Int), .int .u64 16] W K = K (.int .u64 ((n / 2 ^ 16 : Nat) : Int)) W := shrN 16 (by decide)
theorem shr8 {W : AW} {K : V → AW → Prop} {n : Nat} : sem E (.bin .shr) [.int .u64 (n : Int), .int .u64 8] W K = K (.int .u64 ((n / 2 ^ 8 : Nat) : Int)) W := shrN 8 (by decide)
theorem bitsLen_small {n : Nat} (h : n < 256) : bitsLen n ≤ 8 := (bitsLen_le_iff n 8).2 h
theorem c0add {n : Nat} (h : n < 1000) : IntKind.i64.wrap (0 + (n : Int)) = n := by rw [Int.zero_add]; exact wn (by omega)
theorem c8add {n : Nat} (h : n < 1000) : IntKind.i64.wrap (IntKind.i64.wrap (0 + 8) + (n : Int)) = ((8 + n : Nat) : Int) := by
  rw [show IntKind.i64.wrap (0 + 8) = ((8 : Nat) : Int) from rfl]; exact wadd (by omega)
theorem c16add {n : Nat} (h : n < 1000) : IntKind.i64.wrap (IntKind.i64.wrap (0 + 16) + (n : Int)) = ((16 + n : Nat) : Int) := by
  rw [show IntKind.i64.wrap (0 + 16) = ((16 : Nat) : Int) from rfl]; exact wadd (by omega)
theorem c24add {n : Nat} (h : n < 1000) : IntKind.i64.wrap (IntKind.i64.wrap (IntKind.i64.wrap (0 + 16) + 8) + (n : Int)) = ((24 + n : Nat) : Int) := by
  rw [show IntKind.i64.wrap (IntKind.i64.wrap (0 + 16) + 8) = ((24 : Nat) : Int) from rfl]; exact wadd (by omega)
theorem len64_c (hP : E.P = Tryz.prog) (W : AW) (n : Nat) (hn : n < 4294967296) : ACalls E 91 [.int .u64 n] W fun X W' => X = .int .i64 (bitsLen n) ∧ W' = W := by
  refine ACalls.of hP Tryz.func91 ok91e (by simp) fun _ hok => ?_
  by_cases h1 : n ≥ 65536
  · by_cases h2 : n / 2 ^ 16 ≥ 256
    · have h3 : n / 2 ^ 16 / 2 ^ 8 < 256 := by omega
      have h4 := bitsLen_small h3
      simp (disch := omega) only [c91, e_seq, e_reg, cond_if, e_ret, e_skip, e_cons, e_nil, e_plain, evs_nil, evs_cons, ev_t, ev_c, argsA_ap, e_putK, e_putd, e_put, e_then, retQ_ret, e_res1, ↓reduceIte, Nat.reduceEqDiff, reduceCtorEq, Option.map_some, List.getElem?_cons_zero, Bool.false_eq_true, frz_int, sem_mov, sem_add, sem_geq, sem_conv, ge32, ge16, ge8, h1, h2, decide_true, shr16, shr8, u8n, ← lentab.eq_def, sem_lentab, wn, c24add]
      exact ⟨_, rfl, _, _, .weak weak_id, Nat.le_refl _, by rw [bitsLen_up (x := n) 16 (by simpa using h1), bitsLen_up (x := n / 2 ^ 16) 8 (by simpa using h2), ← Nat.add_assoc], rfl⟩
    · have h3 : n / 2 ^ 16 < 256 := by omega
      have h4 := bitsLen_small h3
      simp (disch := omega) only [c91, e_seq, e_reg, cond_if, e_ret, e_skip, e_cons, e_nil, e_plain, evs_nil, evs_cons, ev_t, ev_c, argsA_ap, e_putK, e_putd, e_put, e_then, retQ_ret, e_res1, ↓reduceIte, Nat.reduceEqDiff, reduceCtorEq, Option.map_some, List.getElem?_cons_zero, Bool.false_eq_true, frz_int, sem_mov, sem_add, sem_geq, sem_conv, ge32, ge16, ge8, h1, h2, decide_true, decide_false, shr16, u8n, ← lentab.eq_def, sem_lentab, wn, c16add]
      exact ⟨_, rfl, _, _, .weak weak_id, Nat.le_refl _, by rw [bitsLen_up (x := n) 16 (by simpa using h1)], rfl⟩
  · by_cases h2 : n ≥ 256
    · have h3 : n / 2 ^ 8 < 256 := by omega
      have h4 := bitsLen_small h3
      simp (disch := omega) only [c91, e_seq, e_reg, cond_if, e_ret, e_skip, e_cons, e_nil, e_plain, evs_nil, evs_cons, ev_t, ev_c, argsA_ap, e_putK, e_putd, e_put, e_then, retQ_ret, e_res1, ↓reduceIte, Nat.reduceEqDiff, reduceCtorEq, Option.map_some, List.getElem?_cons_zero, Bool.false_eq_true, frz_int, sem_mov, sem_add, sem_geq, sem_conv, ge32, ge16, ge8, h1, h2, decide_true, decide_false, shr8, u8n, ← lentab.eq_def, sem_lentab, wn, c8add]
      exact ⟨_, rfl, _, _, .weak weak_id, Nat.le_refl _, by rw [bitsLen_up (x := n) 8 (by simpa using h2)], rfl⟩
    · have h3 : n < 256 := by omega
      have h4 := bitsLen_small h3
      simp (disch := omega) only [c91, e_seq, e_reg, cond_if, e_ret, e_skip, e_cons, e_nil, e_plain, evs_nil, evs_cons, ev_t, ev_c, argsA_ap, e_putK, e_putd, e_put, e_then, retQ_ret, e_res1, ↓reduceIte, Nat.reduceEqDiff, reduceCtorEq, Option.map_some, List.getElem?_cons_zero, Bool.false_eq_true, frz_int, sem_mov, sem_add, sem_geq, sem_conv, ge32, ge16, ge8, h1, h2, decide_false, u8n, ← lentab.eq_def, sem_lentab, wn, c0add]
      exact ⟨_, rfl, _, _, .weak weak_id, Nat.le_refl _, rfl, rfl⟩
theorem len_c (hP : E.P = Tryz.prog) (W : AW) (n : Nat) (hn : n < 4294967296) : ACalls E 55 [.int .u64 n] W fun X W' => X = .int .i64 (bitsLen n) ∧ W' = W := by
  refine ACalls.of hP Tryz.func55 ok55e (by simp) fun _ hok => ?_
  simp only [c55, e_seq, e_reg, cond_if, e_skip, e_cons, e_nil, e_plain, evs_nil, evs_cons, ev_t, ev_c, argsA_ap, e_putK, e_putd, e_put, e_then, ↓reduceIte, reduceCtorEq, List.map_cons, List.map_nil, List.getElem?_cons_zero, Bool.false_eq_true, frz_int, sem_mov, sem_call]
  refine (len64_c hP W n hn).mono ?_
  rintro X W' ⟨rfl, rfl⟩
  simp only [e_ret, e_cons, e_nil, e_plain, evs_nil, evs_cons, ev_t, e_putK, e_putd, e_put, retQ_ret, e_res1, ↓reduceIte, Option.map_some, frz_int, sem_mov]
  exact ⟨_, rfl, _, _, .weak weak_id, Nat.le_refl _, rfl, rfl⟩
end Go.AL.S
set_option maxRecDepth 100000
namespace Go.AL.S
open Go Go.AL Go.Proofs Go.Sort
variable {E : Env}
theorem nextPow_c (hP : E.P = Tryz.prog) (W : AW) (n : Nat) (hn : n < 4294967296) : ACalls E 115 [.int .i64 n] W fun X W' => X = .int .u64 ((1 <<< bitsLen n : Nat) : Int) ∧ W' = W := by
  refine ACalls.of hP Tryz.func115 ok115e (by simp) fun _ hok => ?_
  have hb : bitsLen n ≤ 32 := (bitsLen_le_iff n 32).2 (by omega)
  have hs : ∀ K : V → AW → Prop, sem E (.bin .shl) [.int .u64 1, .int .i64 ((bitsLen n : Nat) : Int)] W K = K (.int .u64 ((1 <<< bitsLen n : Nat) : Int)) W := by
    intro K
    have h0 : (0 : Int) ≤ ((bitsLen n : Nat) : Int) := by omega
    have h1 : shI .shl .u64 1 ((bitsLen n : Nat) : Int) = some (.int .u64 ((1 <<< bitsLen n : Nat) : Int)) := by
      simp only [shI, h0, ↓reduceIte, Int.toNat_natCast, IntKind.bits, Nat.min_eq_left (show bitsLen n ≤ 64 by omega)]
      congr 2
      have e : (1 : Int) * (2 : Int) ^ bitsLen n = ((1 <<< bitsLen n : Nat) : Int) := by simp [Nat.shiftLeft_eq]
      rw [e]
      exact un (by rw [Nat.shiftLeft_eq, Nat.one_mul]; exact Nat.lt_of_le_of_lt (Nat.pow_le_pow_right (by decide) hb) (by decide))
    simp only [sem, rsem, tsem, h1]
    rfl
  simp (disch := omega) only [c115, e_seq, e_reg, e_cons, e_nil, e_plain, evs_nil, evs_cons, ev_t, ev_c, argsA_ap, e_putK, e_putd, e_put, e_then, ↓reduceIte, reduceCtorEq, List.map_cons, List.map_nil, List.getElem?_cons_zero, frz_int, sem_mov, sem_conv, sem_call, un]
  refine (len_c hP W n hn).mono ?_
  rintro X W' ⟨rfl, rfl⟩
  simp only [e_ret, e_cons, e_nil, e_plain, evs_nil, evs_cons, ev_t, ev_c, e_putK, e_putd, e_put, retQ_ret, e_res1, ↓reduceIte, Option.map_some, frz_int, sem_mov, hs]
  exact ⟨_, rfl, _, _, .weak weak_id, Nat.le_refl _, rfl, rfl⟩

/-! a number of 64 bits that is turned in place -/
def px (A : AW) (p : Nat) (x : UInt64) : AW := A.put p (.row [.int .u64 (x.toNat : Int)])
theorem px_nx {A : AW} {p : Nat} {x : UInt64} : (px A p x).nx = A.nx := id rfl
theorem px_get {A : AW} {p : Nat} {x : UInt64} : (px A p x).get p = some (.row [.int .u64 (x.toNat : Int)]) := by simp [px, AW.put]
theorem ldx {A : AW} {K : V → AW → Prop} {p : Nat} {x : UInt64} : sem E (.load false 1) [.ptr p 0] (px A p x) K = K (.int .u64 (x.toNat : Int)) (px A p x) := sem_load_row px_get rfl
theorem stx {A : AW} {K : V → AW → Prop} {p : Nat} {x y : UInt64} : sem E (.store 1) [.ptr p 0, .int .u64 (y.toNat : Int)] (px A p x) K = K .undef (px A p y) := by
  rw [sem_store_row (s := 1) (x := .int .u64 (y.toNat : Int)) px_get rfl rfl (by simp)]
  show K .undef ((px A p x).put p (.row [.int .u64 (y.toNat : Int)])) = _
  congr 1
  simp only [px, AW.put, AW.mk.injEq, and_true]
  funext z
  by_cases h : z = p <;> simp [h]
theorem ofInt_u64 (x : UInt64) : BitVec.ofInt 64 (x.toNat : Int) = x.toBitVec := by
  apply BitVec.eq_of_toNat_eq
  rw [BitVec.toNat_ofInt]
  have := x.toNat_lt
  simp
  omega
theorem u64w (x : UInt64) : IntKind.u64.wrap (x.toNat : Int) = x.toNat := un x.toNat_lt
theorem xorx {W : AW} {K : V → AW → Prop} {x y : UInt64} : sem E (.bin .xor) [.int .u64 (x.toNat : Int), .int .u64 (y.toNat : Int)] W K = K (.int .u64 ((x ^^^ y).toNat : Int)) W := by
  have h1 : binI .xor .u64 x.toNat y.toNat = some (.int .u64 ((x ^^^ y).toNat : Int)) := by
    show (bitI .xor .u64 x.toNat y.toNat).map (V.int .u64) = _
    have : bitI .xor .u64 x.toNat y.toNat = some ((x ^^^ y).toNat : Int) := by
      show some (IntKind.u64.wrap ((BitVec.ofInt 64 (x.toNat : Int) ^^^ BitVec.ofInt 64 (y.toNat : Int)).toNat : Int)) = _
      rw [ofInt_u64, ofInt_u64]
      exact congrArg some (u64w (x ^^^ y))
    rw [this]; rfl
  simp only [sem, rsem, tsem, ↓reduceIte, h1]
theorem shlx {W : AW} {K : V → AW → Prop} {x : UInt64} (s : UInt64) (hs : s.toNat < 64) : sem E (.bin .shl) [.int .u64 (x.toNat : Int), .int .u64 (s.toNat : Int)] W K = K (.int .u64 ((x <<< s).toNat : Int)) W := by
  have h0 : (0 : Int) ≤ (s.toNat : Int) := by omega
  have h1 : binI .shl .u64 x.toNat s.toNat = some (.int .u64 ((x <<< s).toNat : Int)) := by
    show shI .shl .u64 x.toNat s.toNat = _
    simp only [shI, h0, ↓reduceIte, Int.toNat_natCast, IntKind.bits, Nat.min_eq_left (Nat.le_of_lt hs)]
    congr 2
    rw [UInt64.toNat_shiftLeft, Nat.mod_eq_of_lt hs, Nat.shiftLeft_eq]
    simp [IntKind.wrap, IntKind.bits, IntKind.signed]
  simp only [sem, rsem, tsem, ↓reduceIte, h1]
theorem shrx {W : AW} {K : V → AW → Prop} {x : UInt64} (s : UInt64) (hs : s.toNat < 64) : sem E (.bin .shr) [.int .u64 (x.toNat : Int), .int .u64 (s.toNat : Int)] W K = K (.int .u64 ((x >>> s).toNat : Int)) W := by
  rw [shrN s.toNat (by omega), UInt64.toNat_shiftRight, Nat.mod_eq_of_lt hs, Nat.shiftRight_eq_div_pow]
theorem shl13 {W : AW} {K : V → AW → Prop} {x : UInt64} : sem E (.bin .shl) [.int .u64 (x.toNat : Int), .int .u64 13] W K = K (.int .u64 ((x <<< 13).toNat : Int)) W := shlx 13 (by decide)
theorem shl17 {W : AW} {K : V → AW → Prop} {x : UInt64} : sem E (.bin .shl) [.int .u64 (x.toNat : Int), .int .u64 17] W K = K (.int .u64 ((x <<< 17).toNat : Int)) W := shlx 17 (by decide)
theorem shr7 {W : AW} {K : V → AW → Prop} {x : UInt64} : sem E (.bin .shr) [.int .u64 (x.toNat : Int), .int .u64 7] W K = K (.int .u64 ((x >>> 7).toNat : Int)) W := shrx 7 (by decide)

theorem next_c (hP : E.P = Tryz.prog) (A : AW) (p : Nat) (x : UInt64) : ACalls E 116 [.ptr p 0] (px A p x) fun X W' => X = .int .u64 ((xorNext x).toNat : Int) ∧ W' = px A p (xorNext x) := by
  refine ACalls.of hP Tryz.func116 ok116e (by simp) fun _ hok => ?_
  simp only [c116, e_seq, e_reg, e_ret, e_par, e_done, e_step, e_cons, e_nil, e_plain, evs_nil, evs_cons, ev_t, ev_c, argsA_ap, e_putK, e_putd, e_putd0, e_put, e_then, retQ_ret, e_res1, ↓reduceIte, Nat.reduceEqDiff, reduceCtorEq, Option.map_some, List.getElem?_cons_zero, frz_int, sem_mov, sem_nilck_ptr, ldx, stx, shl13, shl17, shr7, xorx]
  exact ⟨_, rfl, _, _, .weak weak_id, Nat.le_refl _, rfl, rfl⟩
end Go.AL.S
set_option maxRecDepth 100000
namespace Go.AL.S
open Go Go.AL Go.Proofs Go.Sort
variable {E : Env}
/-- The world while patterns are broken: the array at r, the drawn number at p. -/
def pb (W : AW) (r p : Nat) (d : Array Int) (x : UInt64) : AW := px (pv W r d) p x
theorem pb_nx {W : AW} {r p : Nat} {d : Array Int} {x : UInt64} : (pb W r p d x).nx = W.nx := id rfl
theorem ldb {W : AW} {K : V → AW → Prop} {r p i : Nat} {d : Array Int} {x : UInt64} (hp : r ≠ p) (h : i < d.size) : sem E (.load false 1) [.vptr r i] (pb W r p d x) K = K (.int .u16 d[i]!) (pb W r p d x) :=
  sem_load_vec (s' := 1) (cells := cellsI d) (by simp [pb, px, pv, AW.put, hp]) (part_cellsI h)
theorem stb {W : AW} {K : V → AW → Prop} {r p i : Nat} {d : Array Int} {x : UInt64} {v : Int} (hp : r ≠ p) (h : i < d.size) : sem E (.store 1) [.vptr r i, .int .u16 v] (pb W r p d x) K = K .undef (pb W r p (d.setIfInBounds i v) x) := by
  have hg : (pb W r p d x).get r = some (.vec 1 (cellsI d)) := by simp [pb, px, pv, AW.put, hp]
  rw [sem_store_vec (s := 1) (x := .int .u16 v) hg rfl rfl (by rw [cellsI_len]; omega)]
  congr 1
  have e : (cellsI d).take i ++ (V.int .u16 v).cells ++ (cellsI d).drop (i + 1) = cellsI (d.setIfInBounds i v) := by
    have : (V.int .u16 v).cells = [V.int .u16 v] := rfl
    rw [this, show (cellsI d).take i ++ [V.int .u16 v] ++ (cellsI d).drop (i + 1) = (cellsI d).set i (V.int .u16 v) from by
      rw [List.set_eq_take_append_cons_drop, if_pos (by rw [cellsI_len]; exact h)]; simp]
    simp [cellsI, List.map_set]
  rw [e]
  simp only [pb, px, pv, AW.put, AW.mk.injEq, and_true]
  funext z
  by_cases h1 : z = r
  · subst h1; simp [hp]
  · by_cases h2 : z = p
    · subst h2; simp [h1]
    · simp [h1, h2]
def bsteps (a l m : Nat) : Nat → Nat → UInt64 × Array Int → UInt64 × Array Int
  | 0, _, st => st
  | k + 1, idx, st => bsteps a l m k (idx + 1) (breakStep a l m st idx)
theorem breakPatterns_eq (d : Array Int) (a b : Nat) (h : b - a ≥ 8) : breakPatterns d a b = (bsteps a (b - a) (1 <<< bitsLen (b - a)) 3 (a + (b - a) / 4 * 2 - 1) (UInt64.ofNat (b - a), d)).2 := by
  simp only [breakPatterns, h, ↓reduceIte, bsteps]
theorem usub1 {n : Nat} (h : 1 ≤ n) (h' : n < 2 ^ 64) : IntKind.u64.wrap ((n : Int) - 1) = ((n - 1 : Nat) : Int) := by
  rw [← un (show n - 1 < 2 ^ 64 by omega)]; congr 1; omega
theorem andx {W : AW} {K : V → AW → Prop} {x : UInt64} {m : Nat} (hm : m < 2 ^ 64) : sem E (.bin .and) [.int .u64 (x.toNat : Int), .int .u64 (m : Int)] W K = K (.int .u64 ((x.toNat &&& m : Nat) : Int)) W := by
  have h1 : binI .and .u64 x.toNat m = some (.int .u64 ((x.toNat &&& m : Nat) : Int)) := by
    show (bitI .and .u64 x.toNat m).map (V.int .u64) = _
    have : bitI .and .u64 x.toNat m = some ((x.toNat &&& m : Nat) : Int) := by
      show some (IntKind.u64.wrap ((BitVec.ofInt 64 (x.toNat : Int) &&& BitVec.ofInt 64 (m : Int)).toNat : Int)) = _
      rw [BitVec.toNat_and, BitVec.toNat_ofInt, BitVec.toNat_ofInt]
      have e1 : ((x.toNat : Int) % ((2 ^ 64 : Nat) : Int)).toNat = x.toNat := by have := x.toNat_lt; omega
      have e2 : ((m : Int) % ((2 ^ 64 : Nat) : Int)).toNat = m := by omega
      rw [e1, e2, un (Nat.lt_of_le_of_lt Nat.and_le_right hm)]
    rw [this]; rfl
  simp only [sem, rsem, tsem, ↓reduceIte, h1]
theorem ofNat_u64 {n : Nat} (h : n < 2 ^ 64) : (UInt64.ofNat n).toNat = n := by simp; omega

theorem bel_ints (n : Nat) (l : List Int) : V.belL n (l.map (V.int .u16)) = true := by
  induction l with
  | nil => rfl
  | cons x l ih => simp [V.belL, V.bel, ih]
theorem pv_ok {W : AW} {r : Nat} {d d' : Array Int} (h : (pv W r d).ok) (hr : r < W.nx) : (pv W r d').ok := by
  intro x o hx
  by_cases e : x = r
  · subst e
    rw [pv_get] at hx
    cases hx
    refine ⟨hr, ?_⟩
    exact bel_ints _ _
  · have : (pv W r d).get x = some o := by
      simp only [pv, AW.put, e, ↓reduceIte] at hx ⊢
      exact hx
    exact h x o this
theorem breakPatterns_c (hP : E.P = Tryz.prog) (W : AW) (r n a b : Nat) (d : Array Int) (hn : d.size = n) (hr : r < W.nx) (hab : a < b) (hb : b ≤ n) (hl : 8 ≤ b - a) (hsm : n < 4294967296) :
    ACalls E 83 [.slr r 0 n 1, .int .i64 a, .int .i64 b] (pv W r d) fun X W' => X = .tuple [] ∧ W' = pv W r (breakPatterns d a b) := by
  refine ACalls.of hP Tryz.func83 ok83e (by simp) fun _ hok => ?_
  rw [breakPatterns_eq d a b hl]
  obtain ⟨l, hl'⟩ : ∃ l, l = b - a := ⟨_, rfl⟩
  rw [← hl']
  have hg8 : l ≥ 8 := by omega
  have hlm := lt_two_pow_bitsLen l
  have hlm2 := two_pow_bitsLen_le (n := l) (by omega)
  obtain ⟨m, hm⟩ : ∃ m, m = 1 <<< bitsLen l := ⟨_, rfl⟩
  have hm' : m = 2 ^ bitsLen l := by rw [hm, Nat.shiftLeft_eq, Nat.one_mul]
  rw [← hm'] at hlm hlm2
  rw [← hm]
  obtain ⟨W1, hW1⟩ : ∃ W1, W1 = W.alloc (.row [.int .u64 0]) := ⟨_, rfl⟩
  have hp : r ≠ W.nx := by omega
  have hA0 : (pv W r d).alloc (.row [.int .u64 0]) = px (pv W1 r d) W.nx 0 := by
    rw [hW1]
    simp only [px, pv, AW.alloc, AW.put, AW.mk.injEq, and_true]
    funext x
    by_cases h : x = W.nx
    · subst h; simp
    · by_cases h2 : x = r <;> simp [h, h2]
  have hst : ∀ K : V → AW → Prop, sem E (.store 1) [.ptr W.nx 0, .int .u64 (l : Int)] (px (pv W1 r d) W.nx 0) K = K .undef (pb W1 r W.nx d (UInt64.ofNat l)) := by
    intro K
    have := stx (E := E) (K := K) (A := pv W1 r d) (p := W.nx) (x := 0) (y := UInt64.ofNat l)
    rwa [ofNat_u64 (by omega)] at this
  have hback : ∀ d' x z, z < (pv W r d').nx → (pb W1 r W.nx d' x).get z = (pv W r d').get z := by
    intro d' x z hz
    rw [pv_nx] at hz
    rw [hW1]
    have h1 : z ≠ W.nx := by omega
    by_cases h2 : z = r <;> simp [pb, px, pv, AW.alloc, AW.put, h1, h2, hp]
  simp (disch := omega) only [c83, e_seq, e_reg, cond_if, e_cons, e_nil, e_plain, evs_nil, evs_cons, ev_t, ev_c, argsA_ap, e_putK, e_putd, e_putd0, e_put, e_then, ↓reduceIte, Nat.reduceEqDiff, List.map_cons, List.map_nil, List.getElem?_cons_zero, List.getElem?_cons_succ, frz_int, sem_mov, sem_sub, sem_geq, sem_conv, sem_call, sem_alloc, wsub, ← hl', cge8, hg8, decide_true, un, pv_nx, hA0, hst]
  refine (nextPow_c hP _ l (by omega)).mono ?_
  rintro X W' ⟨rfl, rfl⟩
  rw [← hm]
  obtain ⟨i0, hi0⟩ : ∃ i0, i0 = a + l / 4 * 2 - 1 := ⟨_, rfl⟩
  simp (disch := omega) only [e_seq, e_reg, e_block, e_cons, e_nil, e_plain, evs_nil, evs_cons, ev_t, ev_c, argsA_ap, e_putK, e_putd, e_put, e_then, ↓reduceIte, Nat.reduceEqDiff, List.getElem?_cons_zero, List.getElem?_cons_succ, sem_mov, sem_add, sem_sub, sem_mul, quo4, wmulr2, wadd, wsub1, ← hi0]
  rw [e_loop]
  refine ALoop.go (B := awp E _) (fun h => awp_mono _ h) (fun (s : Nat × UInt64 × Array Int) A1 W2 => A1 0 = some (.slr r 0 n 1) ∧ A1 1 = some (.int .i64 a) ∧ A1 6 = some (.int .i64 l) ∧ A1 7 = some (.ptr W.nx 0) ∧ A1 8 = some (.int .u64 m) ∧ A1 9 = some (.int .i64 ((i0 + s.1 : Nat) : Int)) ∧
    W2 = pb W1 r W.nx s.2.2 s.2.1 ∧ s.1 ≤ 3 ∧ s.2.2.size = n ∧ bsteps a l m (3 - s.1) (i0 + s.1) s.2 = bsteps a l m 3 i0 (UInt64.ofNat l, d)) (fun s => 3 - s.1) (0, UInt64.ofNat l, d)
    ⟨rfl, rfl, rfl, rfl, rfl, rfl, rfl, by simp, hn, rfl⟩ ?_
  rintro ⟨t, x, d1⟩ A1 W2 ⟨g0, g1, g6, g7, g8, g9, rfl, gt, gs, gb⟩ _
  simp only at g9 gt gs gb
  by_cases ht : t < 3
  · have hc : i0 + t ≤ a + l / 4 * 2 + 1 := by omega
    rw [show 3 - t = (3 - (t + 1)) + 1 by omega, bsteps] at gb
    simp (disch := omega) only [e_seq, e_reg, cond_if, e_block, e_skip, e_cons, e_nil, e_plain, evs_nil, evs_cons, ev_t, ev_c, e_putK, e_putd, e_put, e_then, ↓reduceIte, Nat.reduceEqDiff, List.map_cons, List.map_nil, frz_ptr, sem_mov, sem_add, sem_mul, sem_leq, sem_call, g1, g6, g7, g9, quo4, wmulr2, wadd, wadd1, cle, hc, decide_true]
    refine (next_c hP _ _ x).mono ?_
    rintro X W' ⟨rfl, rfl⟩
    obtain ⟨x', hx'⟩ : ∃ x', x' = xorNext x := ⟨_, rfl⟩
    obtain ⟨o, ho⟩ : ∃ o, o = x'.toNat &&& (m - 1) := ⟨_, rfl⟩
    have hol : o ≤ m - 1 := by rw [ho]; exact Nat.and_le_right
    rw [← hx']
    have hbs : breakStep a l m (x, d1) (i0 + t) = (x', swp d1 (i0 + t) (a + (if o ≥ l then o - l else o))) := by
      simp only [breakStep, ← hx', ← ho]
    rw [hbs] at gb
    have hpb : ∀ (d : Array Int) (y : UInt64), px (pv W1 r d) W.nx y = pb W1 r W.nx d y := fun _ _ => rfl
    by_cases h1 : o ≥ l
    · rw [if_pos h1] at gb
      simp (disch := (try simp only [sz_set]) <;> omega) only [e_seq, e_reg, cond_if, e_par, e_done, e_step, e_cons, e_nil, e_plain, evs_nil, evs_cons, ev_t, ev_c, e_putK, e_putd, e_putd0, e_put, e_then, e_blk, ↓reduceIte, Nat.reduceEqDiff, reduceCtorEq, sem_mov, sem_add, sem_sub, sem_geq, sem_conv, g0, g1, g6, g7, g8, g9, usub1, andx, ← ho, wn, cge, h1, decide_true, wsub, wadd, wadd1, ix, hpb, ldb, stb, sw]
      exact ⟨(t + 1, x', swp d1 (i0 + t) (a + (o - l))), ⟨trivial, trivial, trivial, trivial, trivial, rfl, rfl, by simp; omega, by simp [swp, gs], gb⟩, by simp; omega, Nat.le_refl _⟩
    · rw [if_neg h1] at gb
      simp (disch := (try simp only [sz_set]) <;> omega) only [e_seq, e_reg, cond_if, e_skip, e_par, e_done, e_step, e_cons, e_nil, e_plain, evs_nil, evs_cons, ev_t, ev_c, e_putK, e_putd, e_putd0, e_put, e_then, e_blk, ↓reduceIte, Nat.reduceEqDiff, reduceCtorEq, Bool.false_eq_true, sem_mov, sem_add, sem_sub, sem_geq, sem_conv, g0, g1, g6, g7, g8, g9, usub1, andx, ← ho, wn, cge, h1, decide_false, wadd, wadd1, ix, hpb, ldb, stb, sw]
      exact ⟨(t + 1, x', swp d1 (i0 + t) (a + o)), ⟨trivial, trivial, trivial, trivial, trivial, rfl, rfl, by simp; omega, by simp [swp, gs], gb⟩, by simp; omega, Nat.le_refl _⟩
  · have hc : ¬ i0 + t ≤ a + l / 4 * 2 + 1 := by omega
    have h3 : 3 - t = 0 := by omega
    rw [h3, bsteps] at gb
    simp (disch := omega) only [e_seq, e_reg, cond_if, e_exit, e_cons, e_nil, e_plain, evs_nil, evs_cons, ev_t, ev_c, e_putK, e_putd, e_put, e_then, e_then_exit, e_blk_exit, retQ_normal, e_res0, ↓reduceIte, Nat.reduceEqDiff, Bool.false_eq_true, sem_mov, sem_add, sem_mul, sem_leq, g1, g6, g9, quo4, wmulr2, wadd, wadd1, cle, hc, decide_false]
    exact ⟨_, rfl, _, _, .weak (weak_back (W := pv W r d1) (pv_ok hok hr) rfl (hback _ _)), Nat.le_refl _, rfl, by rw [← gb]⟩
end Go.AL.S
